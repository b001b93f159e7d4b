/- What RowPagerPlays needs, part 5. -/
import Derived.Test.YtdinnkacilgmmaaPlD
import Derived.IntWalk
import Derived.RangeFuncWrites
import Derived.BigRegionIn
namespace Go.Proofs.Ytdinnkacilgmmaa
open Go.RowKit

/-- the number of bytes, the lowest first -/
def unle : List UInt8 → Nat
  | [] => 0
  | c :: r => c.toNat + 256 * unle r
/-- so many bytes of a number, the lowest first -/
def le : Nat → Nat → List UInt8
  | 0, _ => []
  | k + 1, n => UInt8.ofNat n :: le k (n / 256)

theorem le_length (k n : Nat) : (le k n).length = k := by
  induction k generalizing n with
  | zero => rfl
  | succ k ih => simp [le, ih]
theorem unle_le (k n : Nat) : unle (le k n) = n % 256 ^ k := by
  induction k generalizing n with
  | zero => simp [le, unle, Nat.mod_one]
  | succ k ih =>
    simp only [le, unle, ih]
    rw [UInt8.toNat_ofNat', show (2 : Nat) ^ 8 = 256 from rfl, Nat.pow_succ, Nat.mul_comm (256 ^ k) 256, Nat.mod_mul]
theorem unle_lt (l : List UInt8) : unle l < 256 ^ l.length := by
  induction l with
  | nil => simp [unle]
  | cons c r ih =>
    simp only [unle, List.length_cons, Nat.pow_succ]
    have := c.toNat_lt
    have h : unle r + 1 ≤ 256 ^ r.length := ih
    omega
theorem unle_snoc (l : List UInt8) (c : UInt8) : unle (l ++ [c]) = unle l + 256 ^ l.length * c.toNat := by
  induction l with
  | nil => simp [unle]
  | cons d r ih =>
    simp only [List.cons_append, unle, ih, List.length_cons, Nat.pow_succ]
    rw [Nat.mul_add, ← Nat.mul_assoc, Nat.mul_comm 256 (256 ^ r.length)]
    omega
theorem le_snoc (k n : Nat) : le (k + 1) n = le k n ++ [UInt8.ofNat (n / 256 ^ k)] := by
  induction k generalizing n with
  | zero => simp [le]
  | succ k ih =>
    rw [le, ih, le, Nat.div_div_eq_div_mul, Nat.pow_succ, Nat.mul_comm 256]
    rfl

theorem bits_or_u64 (x y : Nat) (hx : x < 18446744073709551616) (hy : y < 18446744073709551616) : bits .or .u64 (x : Int) (y : Int) = ((x ||| y : Nat) : Int) := by
  show IntKind.u64.wrap ((BitVec.ofInt 64 (x : Int) ||| BitVec.ofInt 64 (y : Int)).toNat : Int) = _
  rw [BitVec.ofInt_natCast, BitVec.ofInt_natCast, BitVec.toNat_or, BitVec.toNat_ofNat, BitVec.toNat_ofNat, Nat.mod_eq_of_lt (by omega), Nat.mod_eq_of_lt (by omega)]
  have : x ||| y < 2 ^ 64 := Nat.or_lt_two_pow (by omega) (by omega)
  rw [IntKind.wrap_u64]
  omega

theorem pow_256 (i : Nat) : (256 : Nat) ^ i = 2 ^ (8 * i) := by rw [Nat.pow_mul]

theorem back_step (i x : Nat) (c : UInt8) (hi : i < 8) (hx : x < 256 ^ i) : bits .or .u64 (x : Int) (IntKind.u64.wrap (IntKind.u64.wrap (c.toNat : Int) * 2 ^ (8 * i))) = ((x + 256 ^ i * c.toNat : Nat) : Int) := by
  have hc := c.toNat_lt
  have h64 : c.toNat * 2 ^ (8 * i) < 18446744073709551616 := by
    have h1 : c.toNat * 2 ^ (8 * i) < 2 ^ 8 * 2 ^ (8 * i) := Nat.mul_lt_mul_of_pos_right (by omega) (Nat.two_pow_pos _)
    rw [← Nat.pow_add] at h1
    have h2 : (2 : Nat) ^ (8 + 8 * i) ≤ 2 ^ 64 := Nat.pow_le_pow_right (by decide) (by omega)
    omega
  have hx64 : x < 18446744073709551616 := by
    rw [pow_256] at hx
    have h2 : (2 : Nat) ^ (8 * i) ≤ 2 ^ 64 := Nat.pow_le_pow_right (by decide) (by omega)
    omega
  rw [IntWalk.u64_in (c.toNat : Int) (by omega)]
  have e : ((c.toNat : Int) * 2 ^ (8 * i)) = ((c.toNat * 2 ^ (8 * i) : Nat) : Int) := by rw [Int.natCast_mul, Int.natCast_pow]; rfl
  rw [e, IntWalk.u64_in _ (by omega), bits_or_u64 _ _ hx64 h64]
  congr 1
  rw [pow_256] at hx ⊢
  rw [Nat.mul_comm c.toNat, Nat.or_comm, ← Nat.two_pow_add_eq_or_of_lt hx, Nat.add_comm]

theorem splice_le_set (l : List UInt8) (off i n : Nat) (h : off + i < l.length) : (splice l off (le i n)).set (off + i) (UInt8.ofNat (n / 256 ^ i)) = splice l off (le (i + 1) n) := by
  have hl := length_splice l off (le i n) (by rw [le_length]; omega)
  apply List.ext_getElem?
  intro j
  rw [List.getElem?_set]
  unfold splice
  simp only [le_snoc, List.append_assoc, List.length_append, List.length_take, le_length, List.length_cons, List.length_nil, List.length_drop, List.getElem?_append, List.getElem?_drop, Nat.min_eq_left (show off ≤ l.length by omega)]
  by_cases e : off + i = j
  · subst e
    rw [if_pos rfl, if_pos (by omega), if_neg (by omega), if_neg (by omega), if_pos (by omega)]
    simp
  · rw [if_neg e]
    by_cases h1 : j < off
    · rw [if_pos h1, if_pos h1]
    · rw [if_neg h1, if_neg h1]
      by_cases h2 : j - off < i
      · rw [if_pos h2, if_pos h2]
      · rw [if_neg h2, if_neg h2, if_neg (by omega)]
        congr 1
        omega

end Go.Proofs.Ytdinnkacilgmmaa
namespace Go.Proofs.Ytdinnkacilgmmaa
open Go.RowKit

/-- a sector's bytes behind its sum -/
def body (s : Nat) (f : UInt8) (p : List UInt8) : List UInt8 := le 8 s ++ [f, UInt8.ofNat p.length] ++ p ++ List.replicate (242 - p.length) 0
def secB (s : Nat) (f : UInt8) (p : List UInt8) : List UInt8 := le 4 (crc (body s f p)).toNat ++ body s f p
end Go.Proofs.Ytdinnkacilgmmaa
namespace Go.Proofs.Ytdinnkacilgmmaa
open Go.RowKit

/-- a ring of a disk's sectors -/
structure Jr where
  frm : Nat
  size : Nat
  start : Nat
  next : Nat
  dead : Bool
def Jr.place (J : Jr) (s : Nat) : Nat := J.frm + (s - 1) % J.size

/-- a journal in memory: block q -/
def JAt (w : World) (q p : Nat) (J : Jr) : Prop :=
  w.heap[q]? = some (.cells #[.pointer (some ⟨p, 0, none⟩), .int .i64 (J.frm : Int), .int .i64 (J.size : Int), .int .i64 (J.start : Int), .int .i64 (J.next : Int), .bool J.dead] 137 (0, 0))

theorem JAt.cell {w : World} {q p : Nat} {J : Jr} (h : JAt w q p J) : w.cell? ⟨q, 0, none⟩ = some (.pointer (some ⟨p, 0, none⟩)) ∧ w.cell? ⟨q, 1, none⟩ = some (.int .i64 (J.frm : Int)) ∧ w.cell? ⟨q, 2, none⟩ = some (.int .i64 (J.size : Int)) ∧
    w.cell? ⟨q, 3, none⟩ = some (.int .i64 (J.start : Int)) ∧ w.cell? ⟨q, 4, none⟩ = some (.int .i64 (J.next : Int)) ∧ w.cell? ⟨q, 5, none⟩ = some (.bool J.dead) := by
  have hc := fun j => cell_of_row w q j _ 137 (0, 0) h
  exact ⟨hc 0, hc 1, hc 2, hc 3, hc 4, hc 5⟩
theorem JAt.mod {F : Nat → Prop} {w w' : World} {q p : Nat} {J : Jr} (h : JAt w q p J) (hm : Mod F w w') (hq : ¬ F q) : JAt w' q p J := hm.obj h hq

/-- what a sector that is right holds: its flags, its piece -/
def right (b : List UInt8) (s : Nat) : Option (UInt8 × List UInt8) :=
  if unle (b.take 4) = (crc (b.drop 4)).toNat ∧ unle ((b.drop 4).take 8) = s ∧ b.getD 12 0 ≤ 3 ∧ 1 ≤ b.getD 13 0 ∧ b.getD 13 0 ≤ 242 then some (b.getD 12 0, (b.drop 14).take (b.getD 13 0).toNat) else none

end Go.Proofs.Ytdinnkacilgmmaa
namespace Go.Proofs.Ytdinnkacilgmmaa
open Go.RowKit

/-- the record that stands from s on, behind n sectors that have been read -/
def recGo (rd : Nat → Option (UInt8 × List UInt8)) (s : Nat) : Nat → Nat → List UInt8 → Option (List UInt8 × Nat)
  | 0, _, _ => none
  | fuel + 1, n, all => match rd (s + n) with
    | none => none
    | some (f, p) => if (decide (f.toNat % 2 = 1) != decide (n = 0)) = true then none
      else if f.toNat < 2 then recGo rd s fuel (n + 1) (all ++ p)
      else if 4 ≤ (all ++ p).length ∧ (all ++ p).length ≤ 8196 ∧ unle ((all ++ p).take 4) = (crc ((all ++ p).drop 4)).toNat then some ((all ++ p).drop 4, n + 1) else none

def Jr.rd (J : Jr) (D : Dsk) (s : Nat) : Option (UInt8 × List UInt8) := right (sector D.now (J.place s)) s
def Jr.rec_ (J : Jr) (D : Dsk) (s : Nat) : Option (List UInt8 × Nat) := recGo (J.rd D) s (J.start + J.size - s) 0 []

end Go.Proofs.Ytdinnkacilgmmaa
namespace Go.Proofs.Ytdinnkacilgmmaa
open Go.RowKit

structure Dsk.fine (D : Dsk) : Prop where
  bad : D.bad = false
  full : D.full = false
  gone : D.gone = false

theorem Dsk.fine.why {D : Dsk} (h : D.fine) (n : Nat) (hn : n < D.N) (b : List UInt8) (hb : b.length ≤ 256) : D.why (n : Int) b = 0 := by
  unfold Dsk.why
  rw [if_neg (by rw [h.gone]; decide), if_neg (by omega), if_neg (by omega), if_neg (by rw [h.full]; decide)]

end Go.Proofs.Ytdinnkacilgmmaa
namespace Go.Proofs.Ytdinnkacilgmmaa
open Go.RowKit

section
variable {w : World} {B q p : Nat} {J : Jr}

end
end Go.Proofs.Ytdinnkacilgmmaa
namespace Go.Proofs.Ytdinnkacilgmmaa
open Go.RowKit

/-- the slice value v owns rows of bytes, each of which is owned -/
def OBB (w : World) (B : Nat) (v : Value) (ls : List (List UInt8)) (G : Nat → Prop) : Prop :=
  ∃ xs : List Value, w.ownsRow B 22 1 v xs.length xs ∧ xs.length = ls.length ∧ (∀ i (h : i < xs.length) (h2 : i < ls.length), OwnB w B xs[i] ls[i]) ∧ G = fun k => v.ownBlock = some k ∨ ∃ x ∈ xs, x.ownBlock = some k

theorem OBB.nil (w : World) (B : Nat) : OBB w B (.slice none 0 0) [] (fun _ => False) :=
  ⟨[], World.ownsRow_nil w B 22 1, rfl, fun i h => by simp at h, by funext k; simp [Value.ownBlock]⟩
theorem OBB.lt {w : World} {B : Nat} {v : Value} {ls : List (List UInt8)} {G : Nat → Prop} (h : OBB w B v ls G) : ∀ k, G k → B ≤ k ∧ k < w.heap.size := by
  obtain ⟨xs, h1, h2, h3, rfl⟩ := h
  rintro k (e | ⟨x, hx, e⟩)
  · exact World.ownsRow.lt h1 k e
  · obtain ⟨i, hi, rfl⟩ := List.getElem_of_mem hx
    exact World.ownsRow.lt (h3 i hi (by omega)) k e
theorem OBB.mod {F G : Nat → Prop} {w w' : World} {B : Nat} {v : Value} {ls : List (List UInt8)} (h : OBB w B v ls G) (hm : Mod F w w') (hF : ∀ k, G k → ¬ F k) : OBB w' B v ls G := by
  obtain ⟨xs, h1, h2, h3, rfl⟩ := h
  exact ⟨xs, owns_mod h1 hm (fun k hk => hF k (.inl hk)), h2, fun i hi hi2 => (h3 i hi hi2).mod hm (fun k hk => hF k (.inr ⟨_, List.getElem_mem hi, hk⟩)), rfl⟩
/-- a block of another kind is none of its blocks -/
theorem OBB.ne {w : World} {B : Nat} {v : Value} {ls : List (List UInt8)} {G : Nat → Prop} (h : OBB w B v ls G) {q : Nat} {C : Array Value} {t : TypeId} {fz : Nat × Nat} (hq : w.heap[q]? = some (.cells C t fz)) (h1 : t ≠ 22) (h2 : t ≠ 5) : ¬ G q := by
  obtain ⟨xs, k1, k2, k3, rfl⟩ := h
  rintro (e | ⟨x, hx, e⟩)
  · exact own_ne k1 hq h1 e
  · obtain ⟨i, hi, rfl⟩ := List.getElem_of_mem hx
    exact own_ne (k3 i hi (by omega)) hq h2 e
theorem OBB.shape {w : World} {B : Nat} {v : Value} {ls : List (List UInt8)} {G : Nat → Prop} (h : OBB w B v ls G) : ∃ a cap, v = .slice a ls.length cap ∧ ls.length ≤ cap ∧ cap ≤ maxLen := by
  obtain ⟨xs, h1, h2, -, -⟩ := h
  obtain ⟨a, cap, e, h3, h4, -⟩ := owns_shape h1
  rw [h2] at e h3
  exact ⟨a, cap, e, h3, h4⟩

/-- a row more -/
theorem OBB.push {w w3 : World} {B : Nat} {v v' x : Value} {ls : List (List UInt8)} {b : List UInt8} {G : Nat → Prop} {xs : List Value} {o : Obj}
    (h1 : w.ownsRow B 22 1 v xs.length xs) (h2 : xs.length = ls.length) (h3 : ∀ i (h : i < xs.length) (h2 : i < ls.length), OwnB w B xs[i] ls[i]) (hG : G = fun k => v.ownBlock = some k ∨ ∃ x ∈ xs, x.ownBlock = some k) (hx : OwnB w B x b)
    (k1 : w3.ownsRow B 22 1 v' (xs.length + 1) (xs ++ [x])) (k2 : Mod (fun k => some k = v.ownBlock) (w.alloc o) w3) (k3 : v'.ownBlock = v.ownBlock ∨ v'.ownBlock = some (w.alloc o).heap.size) :
    ∃ G', OBB w3 B v' (ls ++ [b]) G' ∧ ∀ k, G' k → G k ∨ x.ownBlock = some k ∨ w.heap.size ≤ k := by
  have m1 : Mod (fun _ => False) w (w.alloc o) := Mod.alloc _ _ _
  have keep : ∀ {u : Value} {l : List UInt8}, OwnB w B u l → OwnB w3 B u l := fun {u l} hu => by
    have hu' := hu.mod m1 (fun _ _ => id)
    refine hu'.mod k2 (fun k hk e => ?_)
    obtain ⟨c, hc⟩ := own_type hu' hk
    exact own_ne (owns_mod h1 m1 (fun _ _ => id)) hc (by decide) e.symm
  refine ⟨_, ⟨xs ++ [x], by rw [List.length_append]; exact k1, by simp [h2], fun i hi hi2 => ?_, rfl⟩, ?_⟩
  · by_cases e : i < xs.length
    · have e2 : i < ls.length := by omega
      simp only [List.getElem_append_left e, List.getElem_append_left e2]
      exact keep (h3 i e e2)
    · have : i = xs.length := by simp at hi; omega
      subst this
      simp only [List.getElem_append_right (Nat.le_refl _), List.getElem_append_right (show ls.length ≤ xs.length by omega)]
      simpa [h2] using keep hx
  · subst hG
    rintro k (e | ⟨y, hy, e⟩)
    · rcases k3 with e2 | e2
      · exact .inl (.inl (by rw [← e2]; exact e))
      · rw [e2] at e
        cases e
        exact .inr (.inr m1.size)
    · rcases List.mem_append.1 hy with hy | hy
      · exact .inl (.inr ⟨y, hy, e⟩)
      · rw [List.mem_singleton.1 hy] at e
        exact .inr (.inl e)

/-! ### what stands -/
theorem recGo_bounds (rd : Nat → Option (UInt8 × List UInt8)) (s : Nat) : ∀ (fuel n : Nat) (all : List UInt8) (b : List UInt8) (m : Nat), recGo rd s fuel n all = some (b, m) → n < m ∧ m ≤ n + fuel ∧ b.length ≤ 8192 := by
  intro fuel
  induction fuel with
  | zero => intro n all b m h; cases h
  | succ fuel ih =>
    intro n all b m h
    simp only [recGo] at h
    split at h
    · cases h
    · split at h
      · cases h
      · split at h
        · have := ih _ _ _ _ h
          omega
        · split at h
          · rename_i hc
            injection h with h
            injection h with h1 h2
            subst h1 h2
            rw [List.length_drop]
            omega
          · cases h
/-- the records that stand from s on, and the number behind them -/
def Jr.recs (J : Jr) (D : Dsk) : Nat → Nat → List (List UInt8) × Nat
  | 0, s => ([], s)
  | fuel + 1, s => match J.rec_ D s with
    | none => ([], s)
    | some (b, n) => (b :: (J.recs D fuel (s + n)).1, (J.recs D fuel (s + n)).2)
end Go.Proofs.Ytdinnkacilgmmaa
namespace Go.Proofs.Ytdinnkacilgmmaa
open Go.RowKit

/-- a journal that was just opened -/
def Jr.opened (frm size next : Nat) (D : Dsk) : Jr := { frm := frm, size := size, start := next, next := (Jr.recs ⟨frm, size, next, next, false⟩ D (size + 1) next).2, dead := false }
end Go.Proofs.Ytdinnkacilgmmaa
namespace Go.Proofs.Ytdinnkacilgmmaa
open Go.RowKit

set_option maxRecDepth 100000 in
theorem put_any {w : World} {B g n0 cap0 : Nat} {l : List UInt8} (ho : OwnB w B (.slice (some ⟨g, 0, none⟩) n0 cap0) l) (off k cap : Nat) (hk : k ≤ 8) (hf : off + k ≤ l.length) (n : Nat) :
    Calls Try.prog 130 #[.slice (some ⟨g, off, none⟩) k cap, .int .u64 (n : Int)] w fun e w' => e = .returned (.tuple #[]) ∧ OwnB w' B (.slice (some ⟨g, 0, none⟩) n0 cap0) (splice l off (le k n)) ∧ Mod (fun j => j = g) w w' := by
  go_enter Try.func130, Try.ntmps130
  go_wp2_with fail
  go_loopw [1, 7] (fun v1 v7 wr => ∃ i : Nat, i ≤ k ∧ v7 = .int .i64 (i : Int) ∧ v1 = .int .u64 ((n / 256 ^ i : Nat) : Int) ∧ OwnB wr B (.slice (some ⟨g, 0, none⟩) n0 cap0) (splice l off (le i n)) ∧ Mod (fun j => j = g) w wr) (fun _ v7 _ => k - (intOf v7).toNat)
  case atStart => exact ⟨0, Nat.zero_le _, rfl, by simp, by simpa [le, splice] using ho, Mod.refl _ _⟩
  case round =>
    obtain ⟨i, hi, rfl, rfl, hr, hm⟩ := hrel
    by_cases hlt : i < k
    · have hlt' : (i : Int) < (k : Int) := by omega
      have hlen := length_splice l off (le i n) (by rw [le_length]; omega)
      obtain ⟨x0, x1⟩ := hr.cellAt (off + i) (by rw [hlen]; omega)
      have hst := hr.store (off + i) (UInt8.ofNat (n / 256 ^ i))
      rw [splice_le_set l off i n (by omega)] at hst
      have hdv : n / 256 ^ (i + 1) = n / 256 ^ i / 256 := by rw [Nat.pow_succ, Nat.div_div_eq_div_mul]
      have hxn := Nat.div_le_self n (256 ^ i)
      have HST := Lib.hid hst
      have HDV := Lib.hid hdv
      generalize (splice l off (le i n))[off + i] = c0 at *
      generalize n / 256 ^ i = x at *
      have hbu : (x : Int) % 256 = ((UInt8.ofNat x).toNat : Int) := by rw [UInt8.toNat_ofNat']; omega
      have HBU := Lib.hid hbu
      clear hst hbu hdv hlen hr ho
      go_wp2_with fail
      go_roundw
      case rel =>
        refine ⟨i + 1, by omega, by go_num, ?_, ?_, ?_⟩
        · rw [HDV.out]; first | rfl | (congr 1; omega)
        · rw [HBU.out]; exact HST.out
        · exact hm.trans (Mod.setCell (F := fun j => j = g) _ _ _ rfl) (fun _ _ e => e)
      case measure => simp [intOf]; omega
    · obtain rfl : i = k := by omega
      go_wp2
      go_end0
      exact ⟨rfl, hr, hm⟩

theorem backward_any (w : World) (a : Option Addr) (n c : Nat) : Calls Try.prog 141 #[.slice a n c] w fun e w' => e = .returned (.func (.func 144) #[] #[.pointer (some ⟨w.heap.size, 0, none⟩)]) ∧ w' = w.alloc (.cells #[.slice a n c] 22) := by
  go_enter Try.func141, Try.ntmps141
  go_wp2
  go_ret
  exact ⟨rfl, rfl⟩

attribute [local go_sem] Oper.semAt_some

/-- what Backward hands over at its k-th round -/
def backV (l : List UInt8) (k : Nat) : Array Value := #[.int .i64 (((l.length - 1 - k : Nat)) : Int), byteV (l.getD (l.length - 1 - k) 0)]
/-- what its rounds keep: its box, and the bytes -/
def KeepsB (B1 : Nat) (a : Option Addr) (l : List UInt8) (W W' : World) : Prop := KeepsAt B1 W W' ∧ (BytesAt W a l → BytesAt W' a l)

set_option maxRecDepth 100000 in
set_option maxHeartbeats 2000000 in
theorem backward_in (F : Fence) (n : Nat) (hf : F.fn 144) (hro : F.round = none) (hn : 1 ≤ n) (l B1 : Nat) (a : Option Addr) (bs : List UInt8) (cap : Nat) (hL : bs.length ≤ 1048576) (J Jx : List Nat → World → Prop)
    (hY : ∀ pre x W, J pre W → pre.length < bs.length → YieldAt F (n - 1) Try.prog l (backV bs x) W fun e W' =>
      (e = .returned (.bool true) ∧ J (pre ++ [x]) W' ∧ KeepsB B1 a bs W W') ∨ (e = .returned (.bool false) ∧ Jx (pre ++ [x]) W'))
    (W : World) (hB1 : W.cell? ⟨B1, 0, none⟩ = some (.slice a bs.length cap)) (hb : BytesAt W a bs) (h0 : J [] W) :
    CallsIn F n Try.prog 144 #[.func (.yield l) #[] #[], .pointer (some ⟨B1, 0, none⟩)] W fun e W' => (∃ v, e = .returned v) ∧
      ((∃ ys, ys = List.range bs.length ∧ J ys W') ∨ (∃ pre, (∃ k, k ≤ bs.length ∧ pre = List.range k) ∧ Jx pre W')) := by
  refine callsIn_of_wp Try.func144 rfl hf ?_ hro
  simp only [Try.ntmps144, List.size_toArray, List.length_cons, List.length_nil, Nat.reduceAdd, Nat.reduceSub, Array.replicate_succ, Array.replicate_zero, List.push_toArray, List.append_toArray, List.nil_append, List.cons_append]
  gi_wp2
  gi_loopw [3] (fun i wr => ∃ k : Nat, k ≤ bs.length ∧ i = .int .i64 ((bs.length : Int) - 1 - (k : Int)) ∧ J (List.range k) wr ∧ wr.cell? ⟨B1, 0, none⟩ = some (.slice a bs.length cap) ∧ BytesAt wr a bs)
    (fun i _ => (intOf i + 1).toNat)
  case atStart => exact ⟨0, Nat.zero_le _, by simp, h0, hB1, hb⟩
  case round =>
    obtain ⟨k, hk, rfl, hJs, hc1, hbk⟩ := hrel
    by_cases hlt : k < bs.length
    · have hlt' : (0 : Int) ≤ (bs.length : Int) - 1 - (k : Int) := by omega
      have hlt2 : (bs.length : Int) - 1 - (k : Int) < (bs.length : Int) := by omega
      obtain ⟨b, off, rfl, hc⟩ := hbk (by intro e; rw [e] at hlt; simp at hlt)
      have xc := hc (bs.length - 1 - k) (by omega)
      have hto : ((bs.length : Int) - 1 - (k : Int)).toNat = bs.length - 1 - k := by omega
      have hYk := hY (List.range k) k wr hJs (by rw [List.length_range]; exact hlt)
      have hbv : backV bs k = #[.int .i64 ((bs.length : Int) - 1 - (k : Int)), byteV bs[bs.length - 1 - k]] := by
        unfold backV
        rw [show (((bs.length - 1 - k : Nat)) : Int) = (bs.length : Int) - 1 - (k : Int) by omega, List.getD_eq_getElem?_getD, List.getElem?_eq_getElem (by omega)]
        rfl
      rw [hbv] at hYk
      obtain ⟨fn, tmps, assign, body, hy, hR⟩ := hYk
      have HRG : Hid (List.range (k + 1) = List.range k ++ [k]) := List.range_succ
      have HB := Lib.hid hbk
      have HC1 := Lib.hid hc1
      clear hbv hc hbk
      generalize bs[bs.length - 1 - k] = cc at *
      gi_wp2
      refine hR.mono ?_
      rintro e W3 (⟨rfl, hJ3, hk3, hk4⟩ | ⟨rfl, hJx3⟩)
      · have hB3 : W3.cell? ⟨B1, 0, none⟩ = some (.slice (some ⟨b, off, none⟩) bs.length cap) := hk3.trans HC1.out
        have hB4 := hk4 HB.out
        clear hk3 hk4
        gi_wp2
        go_roundw
        case rel => exact ⟨k + 1, by omega, by congr 1; push_cast; omega, by rw [HRG.out]; exact hJ3, hB3, hB4⟩
        case measure => simp [intOf]; omega
      · gi_wp2
        refine bodyPost_ret (results_none rfl _ _ _) rfl ?_
        exact ⟨⟨_, rfl⟩, .inr ⟨_, ⟨k + 1, by omega, HRG.out.symm⟩, hJx3⟩⟩
    · have hke : k = bs.length := by omega
      subst hke
      have : ¬ (0 : Int) ≤ (bs.length : Int) - 1 - (bs.length : Int) := by omega
      gi_wp2
      go_end0
      exact ⟨⟨_, rfl⟩, Or.inl hJs⟩
end Go.Proofs.Ytdinnkacilgmmaa
namespace Go.Proofs.Ytdinnkacilgmmaa
open Go.RowKit

def accB (l : List UInt8) (pre : List Nat) : Nat := pre.foldl (fun n k => n * 256 + (l.getD (l.length - 1 - k) 0).toNat) 0
theorem accB_snoc (l : List UInt8) (pre : List Nat) (x : Nat) : accB l (pre ++ [x]) = accB l pre * 256 + (l.getD (l.length - 1 - x) 0).toNat := by simp [accB]
theorem accB_lt (l : List UInt8) (pre : List Nat) : accB l pre < 256 ^ pre.length := by
  have key : ∀ (n : Nat) (p : List Nat), p.length = n → accB l p < 256 ^ n := by
    intro n
    induction n with
    | zero => intro p hp; rw [List.eq_nil_of_length_eq_zero hp]; simp [accB]
    | succ n ih =>
      intro p hp
      rcases List.eq_nil_or_concat p with e | ⟨q, x, e⟩
      · subst e; simp at hp
      · rw [List.concat_eq_append] at e; subst e
        have := ih q (by simpa using hp)
        have hc := (l.getD (l.length - 1 - x) 0).toNat_lt
        rw [accB_snoc, Nat.pow_succ]
        omega
  exact key _ pre rfl
theorem unle_drop (l : List UInt8) (i : Nat) (h : i < l.length) : unle (l.drop i) = l[i].toNat + 256 * unle (l.drop (i + 1)) := by
  rw [List.drop_eq_getElem_cons h]; rfl
theorem accB_range (l : List UInt8) : ∀ k, k ≤ l.length → accB l (List.range k) = unle (l.drop (l.length - k)) := by
  intro k
  induction k with
  | zero => intro _; rw [Nat.sub_zero, List.drop_length]; rfl
  | succ k ih =>
    intro h
    rw [List.range_succ, accB_snoc, ih (by omega), unle_drop l (l.length - (k + 1)) (by omega)]
    rw [show l.length - 1 - k = l.length - (k + 1) by omega, show l.length - (k + 1) + 1 = l.length - k by omega, List.getD_eq_getElem?_getD, List.getElem?_eq_getElem (by omega), Option.getD_some]
    omega
theorem or_step (x c : Nat) (hx : x < 72057594037927936) (hc : c < 256) : bits .or .u64 ((x : Int) * 256) (c : Int) = ((x * 256 + c : Nat) : Int) := by
  have e : (x : Int) * 256 = ((x * 256 : Nat) : Int) := by omega
  rw [e, bits_or_u64 _ _ (by omega) (by omega)]
  congr 1
  have := Nat.two_pow_add_eq_or_of_lt (i := 8) (b := c) (by omega) x
  rw [show (2 : Nat) ^ 8 * x = x * 256 by omega] at this
  exact this.symm

/-- behind some bytes -/
structure GI (w : World) (a : Option Addr) (l : List UInt8) (cap : Nat) (pre : List Nat) (W : World) : Prop where
  b0 : Boxed W w.heap.size 142 (.int .u64 (accB l pre : Int))
  b1 : Boxed W (w.heap.size + 1) 22 (.slice a l.length cap)
  by_ : BytesAt W a l
  m : Mod (fun _ => False) w W

theorem GI.own {w : World} {a : Option Addr} {l : List UInt8} {cap : Nat} (hb : BytesAt w a l) : OwnFrom (w.heap.size + 2) (GI w a l cap) := fun s W W' row h hg hr => by
  have hm : Mod (fun k => some k = row) W W' := Mod.grown hg
  have key : ∀ {k : Nat} {o : Obj}, k < w.heap.size + 2 → W.heap[k]? = some o → W'.heap[k]? = some o := fun {k o} hk ho => hm.obj ho (fun e => by have := (hr k e.symm).1; omega)
  have hm' : Mod (fun _ => False) w W' := h.m.trans hm (fun k hk e => by have := (hr k e.symm).1; omega)
  exact ⟨key (by omega) h.b0, key (by omega) h.b1, hb.mod hm' (fun _ _ _ => id), hm'⟩

theorem backward_seq (B1 : Nat) (a : Option Addr) (l : List UInt8) (cap : Nat) (hL : l.length ≤ 1048576) (w : World) (hB1 : Boxed w B1 22 (.slice a l.length cap)) (hb : BytesAt w a l) :
    SeqStopsK Fence.wide 4 Try.prog 144 #[.pointer (some ⟨B1, 0, none⟩)] (backV l) (KeepsB B1 a l) (fun ys => ys = List.range l.length) (fun pre => ∃ k, k ≤ l.length ∧ pre = List.range k) l.length w :=
  fun lp J Jx W hW _ _ hY h0 => backward_in Fence.wide 4 trivial rfl (by decide) lp B1 a l cap hL J Jx hY W
    ((hW.cell (p := ⟨B1, 0, none⟩) (lt_of_block hB1)).trans hB1.cell) (hb.fresh hW) h0

attribute [local go_sem] Oper.semAt_some

set_option maxHeartbeats 1000000 in
set_option maxRecDepth 100000 in
theorem get_any (w : World) (a : Option Addr) (l : List UInt8) (n cap : Nat) (hn : l.length = n) (hb : BytesAt w a l) (hl : l.length ≤ 8) :
    Calls Try.prog 128 #[.slice a n cap] w fun e w' => e = .returned (.int .u64 (unle l : Int)) ∧ Mod (fun _ => False) w w' := by
  subst hn
  refine callsIn_wide.1 (callsIn_of_wp_marks (F := Fence.wide) (n := 5) Try.func128 rfl trivial (wpIn_wide.2 ?_) rfl)
  simp only [Try.ntmps128, List.size_toArray, List.length_cons, List.length_nil, Nat.reduceAdd, Nat.reduceSub, Array.replicate_succ, Array.replicate_zero, List.push_toArray, List.append_toArray, List.nil_append, List.cons_append]
  go_wp2_with (go_at_call 141; refine (backward_any _ _ _ _).mono ?_; rintro e w' ⟨rfl, rfl⟩)
  obtain ⟨W2, hW2⟩ : ∃ W2, W2 = (w.alloc (Obj.cells #[Value.int IntKind.u64 0] 142)).alloc (Obj.cells #[Value.slice a l.length cap] 22) := ⟨_, rfl⟩
  rw [← hW2]
  have m2 : Mod (fun _ => False) w W2 := by rw [hW2]; exact (Mod.alloc _ _ _).trans' (Mod.alloc _ _ _)
  have z2 : W2.heap.size = w.heap.size + 2 := by rw [hW2]; simp
  have hI0 : GI w a l cap [] W2 := by
    refine ⟨?_, ?_, hb.mod m2 (fun _ _ _ => id), m2⟩
    · unfold Boxed; rw [hW2, Below.heap_alloc _ _ _ (by simp), heap_alloc_new]; rfl
    · unfold Boxed; rw [hW2]
      have := heap_alloc_new (w.alloc (Obj.cells #[Value.int IntKind.u64 0] 142)) (Obj.cells #[Value.slice a l.length cap] 22)
      simpa using this
  clear hW2
  have hsq := backward_seq (w.heap.size + 1) a l cap (by omega) W2 hI0.b1 hI0.by_
  have HI0 := Lib.hid hI0
  clear hI0
  refine (wpIn_wide (n := 5)).1 ?_
  refine wpIn_rangeFunc_ownF (F := Fence.wide) (n := 5) rfl (by decide) rfl trivial (fun _ _ => rfl) hsq (fun h k => ⟨k.1.trans h.1, fun hx => k.2 (h.2 hx)⟩) ?hKb (Below.refl _ _) (fun _ => rfl)
    (GI w a l cap) (fun _ _ _ => False) (by rw [z2]; exact GI.own hb) (fun _ _ _ _ _ h => h.elim) HI0.out ?a1 ?hassign ?hbody ?hdone ?hstop
  case hassign =>
    intro lp x W K hK
    unfold backV
    gi_wp2
    exact hK
  case hKb =>
    intro W lp o o' hlp ho hno _
    refine ⟨World.cell?_of_block (a := ⟨w.heap.size + 1, 0, none⟩) (World.putObj_heap_other (by show w.heap.size + 1 ≠ lp; omega)), fun hx => ?_⟩
    refine hx.mod ((Mod.grown (grownBy_putObj' W lp o')).mono (fun k _ e => Option.some.inj e) : Mod (fun k => k = lp) W (W.putObj lp o')) (fun y hy hne e => ?_)
    obtain ⟨b, off, e2, hc⟩ := hx hne
    rw [hy] at e2
    cases e2
    dsimp only at e
    subst e
    have := hc 0 (List.length_pos_iff.2 hne)
    unfold World.cell? at this
    rw [ho] at this
    cases o <;> simp_all [Obj.isCells]
  case hstop => exact fun _ _ _ _ _ _ h => h.elim
  case hbody =>
    intro lp pre x W hI hlen
    have x0 := hI.b0.cell
    have f0 := hI.b0.frozen
    have hlt := accB_lt l pre
    have hlt7 : 256 ^ pre.length ≤ 256 ^ 7 := Nat.pow_le_pow_right (by decide) (by omega)
    have hc := (l.getD (l.length - 1 - x) 0).toNat_lt
    have hor := or_step (accB l pre) (l.getD (l.length - 1 - x) 0).toNat (by omega) hc
    rw [← accB_snoc] at hor
    have hm : Mod (fun k => k = w.heap.size) W (W.setCell ⟨w.heap.size, 0, none⟩ (.int .u64 (accB l (pre ++ [x]) : Int))) := Mod.setCell _ _ _ rfl
    have hby : BytesAt (W.setCell ⟨w.heap.size, 0, none⟩ (.int .u64 (accB l (pre ++ [x]) : Int))) a l := hI.by_.mod hm (fun y hy hne e => by
      subst hy
      have := hb.lt hne
      omega)
    have hend : KeepsOthers W (W.setCell ⟨w.heap.size, 0, none⟩ (.int .u64 (accB l (pre ++ [x]) : Int))) ∧ KeepsB (w.heap.size + 1) a l W (W.setCell ⟨w.heap.size, 0, none⟩ (.int .u64 (accB l (pre ++ [x]) : Int))) ∧ GI w a l cap (pre ++ [x]) (W.setCell ⟨w.heap.size, 0, none⟩ (.int .u64 (accB l (pre ++ [x]) : Int))) := by
      have b1 : Boxed (W.setCell ⟨w.heap.size, 0, none⟩ (.int .u64 (accB l (pre ++ [x]) : Int))) (w.heap.size + 1) 22 (.slice a l.length cap) := hm.obj hI.b1 (by omega)
      exact ⟨KeepsOthers.setCell _ _ _, ⟨(Boxed.cell b1).trans (Boxed.cell hI.b1).symm, fun _ => hby⟩, Boxed.set _ hI.b0, b1, hby, hI.m.trans hm (fun k hk e => by omega)⟩
    have HEND := Lib.hid hend
    rw [List.getD_eq_getElem?_getD] at hor hc
    have hwc : IntKind.u64.wrap ((l[l.length - 1 - x]?.getD 0).toNat : Int) = ((l[l.length - 1 - x]?.getD 0).toNat : Int) := IntWalk.u64_in _ (by omega)
    have HOR := Lib.hid hor
    have hacc : (accB l pre : Int) < 72057594037927936 := by omega
    clear hend hor hby hm hlt hlt7 hsq
    generalize accB l pre = A at *
    generalize accB l (pre ++ [x]) = A2 at *
    generalize (l[l.length - 1 - x]?.getD 0) = c at *
    gi_wp2
    rw [HOR.out]
    exact HEND.out
  case hdone =>
    intro D0 xs W hD0 hxs hI hdef
    have x0 := hI.b0.cell
    have hv : accB l xs = unle l := by rw [hxs, accB_range l _ (Nat.le_refl _), Nat.sub_self]; rfl
    rw [hv] at x0
    have hm := hI.m
    clear hI HI0 hsq
    go_wp2
    refine ⟨by simp, .inl ⟨_, _, rfl, run_takeDeferred hdef, ?_⟩⟩
    refine ⟨_, results_tmp rfl _ _ _, rfl, hm.trans ((Mod.grown (grownBy_putObj' W D0 _)).mono (fun k _ e => Option.some.inj e) : Mod (fun k => k = D0) W _) (fun k hk e => by omega)⟩
end Go.Proofs.Ytdinnkacilgmmaa
namespace Go.Proofs.Ytdinnkacilgmmaa
open Go.RowKit

/-- bytes as a page -/
def pad (b : List UInt8) : List UInt8 := b ++ List.replicate (252 - b.length) 0
/-- a sector of bytes, with their sum -/
def seal_ (b : List UInt8) : List UInt8 := le 4 (crc (pad b)).toNat ++ pad b
/-- its sum is right -/
def sound (s : List UInt8) : Bool := decide (unle (s.take 4) = (crc (s.drop 4)).toNat)
theorem pad_length (b : List UInt8) (h : b.length ≤ 252) : (pad b).length = 252 := by simp [pad]; omega
theorem seal_length (b : List UInt8) (h : b.length ≤ 252) : (seal_ b).length = 256 := by rw [seal_, List.length_append, le_length, pad_length b h]
theorem seal_drop (b : List UInt8) : (seal_ b).drop 4 = pad b := List.drop_left' (le_length _ _)
theorem seal_sound (b : List UInt8) : sound (seal_ b) = true := by
  unfold sound
  rw [seal_drop]
  have : (seal_ b).take 4 = le 4 (crc (pad b)).toNat := List.take_left' (le_length _ _)
  rw [this, unle_le]
  have hlt := (crc (pad b)).isLt
  exact decide_eq_true (Nat.mod_eq_of_lt (by omega))
theorem fill_pad (b : List UInt8) (h : b.length ≤ 252) : splice (List.replicate 256 (0 : UInt8)) 4 b = List.replicate 4 0 ++ pad b := by
  unfold splice pad
  rw [List.take_replicate, List.drop_replicate, show min 4 256 = 4 by rfl, show 256 - (4 + b.length) = 252 - b.length by omega]
theorem fill_seal (b : List UInt8) : splice (List.replicate 4 0 ++ pad b) 0 (le 4 (crc (pad b)).toNat) = seal_ b := by
  unfold splice seal_
  rw [le_length, List.take_zero, List.nil_append]
  congr 1

set_option maxHeartbeats 1000000 in
set_option maxRecDepth 100000 in
theorem sealed_any {w : World} (a : Option Addr) (p : List UInt8) (n cap : Nat) (hn : p.length = n) (hp : p.length ≤ 252) (hb : BytesAt w a p) (C : Nat) (hC : C ≤ w.heap.size) :
    Calls Try.prog 106 #[.slice a n cap] w fun e w' => ∃ v, e = .returned v ∧ OwnB w' C v (seal_ p) ∧ Mod (fun _ => False) w w' ∧ (∀ k, v.ownBlock = some k → w.heap.size ≤ k) := by
  subst hn
  obtain ⟨W1, hW1⟩ : ∃ W1, W1 = w.alloc (.cells (zerosV 256) 5) := ⟨_, rfl⟩
  obtain ⟨g, hg⟩ : ∃ g, g = w.heap.size := ⟨_, rfl⟩
  have o1 : OwnB W1 g (.slice (some ⟨g, 0, none⟩) 256 256) (List.replicate 256 0) := by
    have := OwnB.made w g (List.replicate 256 0) (zerosV 256) rfl (by omega) (by rw [List.length_replicate]; decide)
    rw [List.length_replicate] at this
    rw [hW1, hg]
    rw [hg] at this
    exact this
  have m1 : Mod (fun _ => False) w W1 := by rw [hW1]; exact Mod.alloc _ _ _
  have km2 : (Instr.makeSlice 22 (.int .i64 256) (.int .i64 256)).run Try.prog w = .ok (.slice (some ⟨g, 0, none⟩) 256 256) W1 := by rw [hW1, hg]; exact run_make_bytes w 256 (by decide)
  have HC := Lib.hid hC
  have HG := Lib.hid hg
  have hb1 := hb.mod m1 (fun _ _ _ => id)
  obtain ⟨g', cap', cur, eg, -, hg3, -, -, hsz3, -⟩ := o1.row (by intro e; have := congrArg List.length e; rw [List.length_replicate] at this; cases this)
  cases eg
  obtain ⟨w4, hrun, hw4, hm4⟩ := copy_run (w := W1) 3 g 4 252 252 a p.length cap p rfl hp hb1 cur 5 hg3 (by rw [hsz3]; omega)
  have o4 := OwnB.laid o1 hg3 hw4 (by rw [List.length_replicate]; omega)
  rw [fill_pad p hp] at o4
  have m4 : Mod (fun _ => False) w w4 := m1.trans hm4 (fun j hj e => by have := HG.out; omega)
  have hbl := pad_length p hp
  have hbs := (OwnB.bytes o4).2.sub 4 252
  rw [Nat.zero_add, show ((List.replicate 4 (0 : UInt8) ++ pad p).drop 4).take 252 = pad p by rw [List.drop_left' (by rw [List.length_replicate]), List.take_of_length_le (by omega)]] at hbs
  have O4 := Lib.hid o4
  have HBS := Lib.hid hbs
  have HBL := Lib.hid hbl
  have HM4 := Lib.hid m4
  have HRUN := Lib.hid hrun
  have hpl : (p.length : Int) ≤ 252 := by omega
  clear hW1 hg hC o1 o4 hbs hbl hw4 hm4 hg3 hsz3 m4 m1 hb hb1 hrun
  go_enter Try.func106, Try.ntmps106
  go_wp2_with fail
  rw [HRUN.out]
  clear HRUN
  go_upto_region 3 with fail
  have md : Mod (fun _ => False) w4 w4.drew := Mod.drew _ _
  have hwq : IntKind.u64.wrap ((crc (pad p)).toNat : Int) = ((crc (pad p)).toNat : Int) := IntWalk.u64_in _ (by have := (crc (pad p)).isLt; omega)
  go_region_held3 (fun _ => True) (trivial)
    (first
      | (go_at_call 27; refine (sum_n (some ⟨g, 4, none⟩) (pad p) 252 252 _ HBL.out (by rw [HBL.out]; decide) (HBS.out.mod md (fun _ _ _ => id))).mono ?_; rintro e w' ⟨rfl, rfl⟩)
      | (go_at_call 130; refine (put_any (O4.out.mod md (fun _ _ => id)) 0 4 256 (by decide) (by rw [List.length_append]; simp) (crc (pad p)).toNat).mono ?_; rintro e w6 ⟨rfl, o6, m6⟩))
  rw [fill_seal] at o6
  have O6 := Lib.hid o6
  have M6 := Lib.hid m6
  clear o6 m6
  go_wp2
  go_ret
  exact ⟨_, rfl, O6.out.weaken (by rw [HG.out]; exact HC.out), (HM4.out.trans' md).trans M6.out (fun j hj e => by have := HG.out; omega), fun k hk => by simp [Value.ownBlock] at hk; have := HG.out; omega⟩

set_option maxHeartbeats 1000000 in
set_option maxRecDepth 100000 in
theorem opened_any {w : World} {C g cap : Nat} {b : List UInt8} (ho : OwnB w C (.slice (some ⟨g, 0, none⟩) 256 cap) b) (hlen : b.length = 256) (hcap : 256 ≤ cap) :
    Calls Try.prog 108 #[.slice (some ⟨g, 0, none⟩) 256 cap] w fun e w' => e = .returned (.tuple #[.slice (some ⟨g, 4, none⟩) 252 (cap - 4), .bool (sound b)]) ∧ Mod (fun _ => False) w w' := by
  have hbs := (OwnB.bytes ho).2
  have e2 : (b.drop 4).take 252 = b.drop 4 := List.take_of_length_le (by rw [List.length_drop, hlen]; decide)
  have b1 := hbs.take0 4
  have b2 := hbs.sub 4 252
  rw [e2, Nat.zero_add] at b2
  have KG : ∀ w', Mod (fun _ => False) w w' → Calls Try.prog 128 #[.slice (some ⟨g, 0, none⟩) 4 cap] w' fun e w'' => e = .returned (.int .u64 (unle (b.take 4) : Int)) ∧ Mod (fun _ => False) w w'' := fun w' hm' =>
    (get_any w' (some ⟨g, 0, none⟩) (b.take 4) 4 cap (by rw [List.length_take, hlen]; decide) (b1.mod hm' (fun _ _ _ => id)) (by rw [List.length_take]; omega)).mono fun e w'' ⟨he, hm⟩ => ⟨he, hm'.trans' hm⟩
  have KS : ∀ w', Mod (fun _ => False) w w' → Calls Try.prog 27 #[.slice (some ⟨g, 4, none⟩) 252 (cap - 4)] w' fun e w'' => e = .returned (.int .u32 ((crc (b.drop 4)).toNat : Int)) ∧ w' = w'' := fun w' hm' =>
    sum_n _ (b.drop 4) 252 _ w' (by rw [List.length_drop, hlen]) (by rw [List.length_drop, hlen]; decide) (b2.mod hm' (fun _ _ _ => id))
  have hSlt := (crc (b.drop 4)).isLt
  obtain ⟨sb, hsb⟩ : ∃ sb, sb = sound b := ⟨_, rfl⟩
  rw [← hsb]
  unfold sound at hsb
  generalize unle (b.take 4) = A at *
  generalize (crc (b.drop 4)).toNat = S at *
  have wS : IntKind.u64.wrap (S : Int) = (S : Int) := IntWalk.u64_in _ (by omega)
  have hcap4 : (4 : Int) ≤ (cap : Int) := by omega
  have hcap0 : ¬ (cap = 4) := by omega
  have hcap256 : (256 : Int) ≤ (cap : Int) := by omega
  replace KG := Lib.hid KG
  replace KS := Lib.hid KS
  have HSB := Lib.hid hsb
  clear ho hbs e2 b1 b2 hsb
  go_enter Try.func108, Try.ntmps108
  go_wp2_with fail
  have md : Mod (fun _ => False) w w.drew := Mod.drew _ _
  go_region_held3 (fun w' => Mod (fun _ => False) w w') (assumption)
    (first
      | (go_at_call 128; (with_reducible refine (KG.out _ (by assumption)).mono ?_); rintro e w1 ⟨rfl, hm1⟩)
      | (go_at_call 27; (with_reducible refine (KS.out _ (by assumption)).mono ?_); rintro e w' ⟨rfl, rfl⟩))
  go_wp2
  go_ret2
  have hh := HSB.out
  refine ⟨?_, ‹Mod _ _ _›⟩
  have : ((A : Int) == (S : Int)) = decide (A = S) := by
    by_cases e : A = S
    · subst e; simp
    · have : ¬ ((A : Int) = (S : Int)) := by omega
      simp [e, this]
  exact ret_val (by show Value.tuple #[_, .bool ((A : Int) == (S : Int))] = _; rw [this, ← hh]; rfl)
end Go.Proofs.Ytdinnkacilgmmaa
namespace Go.Proofs.Ytdinnkacilgmmaa
open Go.RowKit

/-- what is safe -/
structure Rt where
  gen : Nat
  page : Int
  next : Nat
  mt : List UInt8
def Rt.none : Rt := ⟨0, -1, 1, []⟩
/-- a root in the range that a slot bears -/
structure Rt.ok (R : Rt) : Prop where
  gen : R.gen < 4611686018427387904
  page : -1 ≤ R.page ∧ R.page ≤ 4096
  next : R.next < 4611686018427387904
  mt : R.mt.length ≤ 100
def rootV (R : Rt) (vm : Value) : Value := .agg #[.int .i64 (R.gen : Int), .int .i64 R.page, .int .i64 (R.next : Int), vm]
def slotPre (R : Rt) : List UInt8 := le 8 R.gen ++ le 4 (R.page + 1).toNat ++ le 8 R.next ++ [UInt8.ofNat R.mt.length]
def slotB (R : Rt) : List UInt8 := seal_ (slotPre R ++ R.mt)
theorem slotPre_length (R : Rt) : (slotPre R).length = 21 := by simp [slotPre, le_length]
theorem slotB_length (R : Rt) (h : R.ok) : (slotB R).length = 256 := seal_length _ (by rw [List.length_append, slotPre_length]; have := h.mt; omega)

structure Pgr where
  frm : Nat
  pages : Nat
  is_ : List UInt8
  root : Rt
  dead : Bool
structure Pgr.wf (P : Pgr) (D : Dsk) : Prop where
  len : P.is_.length = 4096
  fit : P.frm + 2 + P.pages ≤ D.N
  top : D.N ≤ 4096
  pos : 1 ≤ P.pages
  root : P.root.ok
def pgCells (p : Nat) (vm : Value) (P : Pgr) : List Value :=
  .pointer (some ⟨p, 0, none⟩) :: .int .i64 (P.frm : Int) :: .int .i64 (P.pages : Int) :: (P.is_.map byteV ++ [.int .i64 (P.root.gen : Int), .int .i64 P.root.page, .int .i64 (P.root.next : Int), vm, .bool P.dead])
/-- a pager in memory -/
structure PgV (w : World) (B q p : Nat) (vm : Value) (P : Pgr) : Prop where
  at_ : w.heap[q]? = some (.cells (pgCells p vm P).toArray 153 (0, 0))
  hq : B ≤ q
  mt : OwnB w B vm P.root.mt
  len : P.is_.length = 4096

theorem pgCells_length {p : Nat} {vm : Value} {P : Pgr} (h : P.is_.length = 4096) : (pgCells p vm P).length = 4104 := by
  simp [pgCells, h]
theorem PgV.head {w : World} {B q p : Nat} {vm : Value} {P : Pgr} (h : PgV w B q p vm P) :
    w.cell? ⟨q, 0, none⟩ = some (.pointer (some ⟨p, 0, none⟩)) ∧ w.cell? ⟨q, 1, none⟩ = some (.int .i64 (P.frm : Int)) ∧ w.cell? ⟨q, 2, none⟩ = some (.int .i64 (P.pages : Int)) := by
  have hc := fun j => cell_of_row w q j _ 153 (0, 0) h.at_
  refine ⟨?_, ?_, ?_⟩
  · rw [hc]; rfl
  · rw [hc]; rfl
  · rw [hc]; rfl
theorem pgCells_is {p : Nat} {vm : Value} {P : Pgr} (h : P.is_.length = 4096) (j : Nat) (hj : j < 4096) : (pgCells p vm P)[3 + j]? = some (byteV (P.is_[j]'(by omega))) := by
  unfold pgCells
  rw [show 3 + j = j + 1 + 1 + 1 by omega]
  simp only [List.getElem?_cons_succ]
  rw [List.getElem?_append_left (by rw [List.length_map]; omega), List.getElem?_map, List.getElem?_eq_getElem (by omega)]
  rfl
theorem pgCells_tail {p : Nat} {vm : Value} {P : Pgr} (h : P.is_.length = 4096) (j : Nat) : (pgCells p vm P)[4099 + j]? = [Value.int .i64 (P.root.gen : Int), .int .i64 P.root.page, .int .i64 (P.root.next : Int), vm, .bool P.dead][j]? := by
  unfold pgCells
  rw [show 4099 + j = (4096 + j) + 1 + 1 + 1 by omega]
  simp only [List.getElem?_cons_succ]
  rw [List.getElem?_append_right (by rw [List.length_map]; omega), List.length_map, h, Nat.add_sub_cancel_left]
theorem PgV.is_cell {w : World} {B q p : Nat} {vm : Value} {P : Pgr} (h : PgV w B q p vm P) (j : Nat) (hj : j < 4096) : w.cell? ⟨q, 3 + j, none⟩ = some (byteV (P.is_[j]'(by have := h.len; omega))) := by
  rw [cell_of_row w q _ _ 153 (0, 0) h.at_, List.getElem?_toArray]
  exact pgCells_is h.len j hj
theorem PgV.tail {w : World} {B q p : Nat} {vm : Value} {P : Pgr} (h : PgV w B q p vm P) :
    w.cell? ⟨q, 4099, none⟩ = some (.int .i64 (P.root.gen : Int)) ∧ w.cell? ⟨q, 4100, none⟩ = some (.int .i64 P.root.page) ∧ w.cell? ⟨q, 4101, none⟩ = some (.int .i64 (P.root.next : Int)) ∧ w.cell? ⟨q, 4102, none⟩ = some vm ∧ w.cell? ⟨q, 4103, none⟩ = some (.bool P.dead) := by
  have hc : ∀ j, w.cell? ⟨q, 4099 + j, none⟩ = [Value.int .i64 (P.root.gen : Int), .int .i64 P.root.page, .int .i64 (P.root.next : Int), vm, .bool P.dead][j]? := fun j => by
    rw [cell_of_row w q _ _ 153 (0, 0) h.at_, List.getElem?_toArray]
    exact pgCells_tail h.len j
  exact ⟨hc 0, hc 1, hc 2, hc 3, hc 4⟩

def Pgr.there (P : Pgr) (n : Int) : Bool := decide (0 ≤ n ∧ n < (P.pages : Int))
set_option maxRecDepth 100000 in
theorem there_any {w : World} {B q p : Nat} {vm : Value} {P : Pgr} (h : PgV w B q p vm P) (n : Int) : Calls Try.prog 107 #[.pointer (some ⟨q, 0, none⟩), .int .i64 n] w fun e w' => e = .returned (.bool (P.there n)) ∧ w = w' := by
  have c2 := h.head.2.2
  obtain ⟨t, ht⟩ : ∃ t, t = P.there n := ⟨_, rfl⟩
  rw [← ht]
  unfold Pgr.there at ht
  have HT := Lib.hid ht
  clear ht
  go_enter Try.func107, Try.ntmps107
  by_cases h0 : 0 ≤ n
  · by_cases h1 : n < (P.pages : Int)
    · go_wp2
      go_ret
      refine ⟨ret_val ?_, rfl⟩
      show Value.bool true = Value.bool t
      rw [HT.out]; simp [h0, h1]
    · go_wp2
      go_ret
      refine ⟨ret_val ?_, rfl⟩
      show Value.bool false = Value.bool t
      rw [HT.out]; simp; omega
  · go_wp2
    go_ret
    refine ⟨ret_val ?_, rfl⟩
    show Value.bool false = Value.bool t
    rw [HT.out]; simp; omega

/-- a root in a variable of its own -/
def RtCell (w : World) (b : Nat) (v : Value) : Prop := ∃ x0 x1 x2 x3, v = .agg #[x0, x1, x2, x3] ∧ w.cell? ⟨b, 0, none⟩ = some x0 ∧ w.cell? ⟨b, 1, none⟩ = some x1 ∧ w.cell? ⟨b, 2, none⟩ = some x2 ∧ w.cell? ⟨b, 3, none⟩ = some x3
theorem RtCell.of {w : World} {b : Nat} {x0 x1 x2 x3 : Value} {t : TypeId} {fz : Nat × Nat} (h : w.heap[b]? = some (.cells #[x0, x1, x2, x3] t fz)) : RtCell w b (.agg #[x0, x1, x2, x3]) :=
  ⟨x0, x1, x2, x3, rfl, cell_of_row w b 0 _ t fz h, cell_of_row w b 1 _ t fz h, cell_of_row w b 2 _ t fz h, cell_of_row w b 3 _ t fz h⟩
theorem results_95 {fn : Func} {p : Tmp} {b : Nat} {v : Value} (h : fn.results = #[.cell p 95]) (tmps : Array Value) (w : World) (hp : tmps.getD p undef = .pointer (some ⟨b, 0, none⟩)) (hc : RtCell w b v) :
    (results fn tmps).run Try.prog w = .ok v w := by
  obtain ⟨x0, x1, x2, x3, rfl, h0, h1, h2, h3⟩ := hc
  simp only [results, h]
  have hp' : tmps[p]?.getD undef = .pointer (some ⟨b, 0, none⟩) := by simpa using hp
  simp [hp', asAddr, go_sem, h0, h1, h2, h3]

theorem set4 {w : World} {b : Nat} {y0 y1 y2 y3 : Value} (h : w.heap[b]? = some (.cells #[y0, y1, y2, y3] 95 (0, 0))) (x0 x1 x2 x3 : Value) :
    ((((w.setCell ⟨b, 0, none⟩ x0).setCell ⟨b, 1, none⟩ x1).setCell ⟨b, 2, none⟩ x2).setCell ⟨b, 3, none⟩ x3).heap[b]? = some (.cells #[x0, x1, x2, x3] 95 (0, 0)) :=
  setCell_block (setCell_block (setCell_block (setCell_block h x0) x1) x2) x3
theorem mod4 {F : Nat → Prop} (w : World) (b : Nat) (hF : F b) (x0 x1 x2 x3 : Value) :
    Mod F w ((((w.setCell ⟨b, 0, none⟩ x0).setCell ⟨b, 1, none⟩ x1).setCell ⟨b, 2, none⟩ x2).setCell ⟨b, 3, none⟩ x3) :=
  (((Mod.setCell w _ _ hF).trans' (Mod.setCell _ _ _ hF)).trans' (Mod.setCell _ _ _ hF)).trans' (Mod.setCell _ _ _ hF)

set_option maxRecDepth 100000 in
theorem own_any {w : World} (R : Rt) (a : Option Addr) (n cap : Nat) (hn : R.mt.length = n) (hm : R.mt.length ≤ 140737488355328) (ha : a = none → R.mt = [] ∧ cap = 0) (hb : BytesAt w a R.mt) (C : Nat) (hC : C ≤ w.heap.size) :
    Calls Try.prog 104 #[rootV R (.slice a n cap)] w fun e w' => ∃ v, e = .returned (rootV R v) ∧ OwnB w' C v R.mt ∧ Mod (fun _ => False) w w' ∧ (∀ k, v.ownBlock = some k → w.heap.size ≤ k) := by
  subst hn
  unfold rootV
  go_enter Try.func104, Try.ntmps104
  go_wp2_with fail
  obtain ⟨W2, hW2⟩ : ∃ W2, W2 = ((w.alloc (.cells #[.int .i64 (R.gen : Int), .int .i64 R.page, .int .i64 (R.next : Int), .slice a R.mt.length cap] 95)).alloc (.cells #[.int .i64 0, .int .i64 0, .int .i64 0, .slice none 0 0] 95)) := ⟨_, rfl⟩
  rw [← hW2]
  have m2 : Mod (fun _ => False) w W2 := by rw [hW2]; exact (Mod.alloc _ _ _).trans' (Mod.alloc _ _ _)
  obtain ⟨b1, hb1⟩ : ∃ b1, b1 = w.heap.size := ⟨_, rfl⟩
  have k1 : W2.heap[b1]? = some (.cells #[.int .i64 (R.gen : Int), .int .i64 R.page, .int .i64 (R.next : Int), .slice a R.mt.length cap] 95 (0, 0)) := by
    rw [hW2, hb1]; exact heap_alloc2_old _ _ _
  have k2 : W2.heap[b1 + 1]? = some (.cells #[.int .i64 0, .int .i64 0, .int .i64 0, .slice none 0 0] 95 (0, 0)) := by
    rw [hW2, hb1]; exact heap_alloc2_new _ _ _
  have s2 : W2.heap.size = b1 + 2 := by rw [hW2, hb1]; simp
  clear hW2
  rw [← hb1]
  have hb2 := hb.mod m2 (fun _ _ _ => id)
  refine (clone_n a R.mt _ cap W2 W2.heap.size rfl (Nat.le_refl _) hm ha hb2).mono ?_
  rintro e w3 ⟨v, rfl, o3, m3, hv⟩
  obtain ⟨a3, c3, rfl, -, hc3, -⟩ := o3.shape
  have k1' := m3.obj k1 id
  have k2' := m3.obj k2 id
  have hvb : (Value.slice a3 R.mt.length c3).ownBlock ≠ some b1 ∧ (Value.slice a3 R.mt.length c3).ownBlock ≠ some (b1 + 1) := ⟨fun e => by have := hv _ e; omega, fun e => by have := hv _ e; omega⟩
  have O3 := Lib.hid o3
  have M3 := Lib.hid (m2.trans' m3)
  have HV := Lib.hid hv
  have HVB := Lib.hid hvb
  have HB1 := Lib.hid hb1
  have HC := Lib.hid hC
  have cc1 := fun j => cell_of_row w3 b1 j _ 95 (0, 0) k1'
  have cc2 := fun j => cell_of_row w3 (b1 + 1) j _ 95 (0, 0) k2'
  have d0 := cc1 0
  have d1 := cc1 1
  have d2 := cc1 2
  have d3 := cc1 3
  have e0 := cc2 0
  have e1 := cc2 1
  have e2 := cc2 2
  have e3 := cc2 3
  have f3 := thaw_of (i := 3) k1'
  have g0 := thaw_of (i := 0) k2'
  have g1 := thaw_of (i := 1) k2'
  have g2 := thaw_of (i := 2) k2'
  have g3 := thaw_of (i := 3) k2'
  simp only [List.getElem?_toArray, List.getElem?_cons_zero, List.getElem?_cons_succ] at d0 d1 d2 d3 e0 e1 e2 e3
  have K1 := Lib.hid k1'
  have K2 := Lib.hid k2'
  clear o3 m3 m2 hv hvb k1 k2 hb2 hb ha hm hb1 hC cc1 cc2 k1' k2'
  go_wp2
  have m4 : Mod (fun k => k = b1) w3 (w3.setCell ⟨b1, 3, none⟩ (.slice a3 R.mt.length c3)) := Mod.setCell _ _ _ rfl
  have k4 := m4.obj K2.out (by omega)
  have k5 := set4 k4 (.int .i64 (R.gen : Int)) (.int .i64 R.page) (.int .i64 (R.next : Int)) (.slice a3 R.mt.length c3)
  have m5 : Mod (fun k => k = b1 ∨ k = b1 + 1) w3 _ := (m4.mono (fun _ _ e => .inl e)).trans' (mod4 _ (b1 + 1) (.inr rfl) (.int .i64 (R.gen : Int)) (.int .i64 R.page) (.int .i64 (R.next : Int)) (.slice a3 R.mt.length c3))
  refine bodyPost_ret (results_95 rfl _ _ rfl (RtCell.of k5)) rfl ⟨_, rfl, (O3.out.mod m5 (fun k hk e => ?_)).weaken ?_, M3.out.trans m5 (fun k hk e => ?_), fun k hk => ?_⟩
  · rcases e with rfl | rfl
    · exact HVB.out.1 hk
    · exact HVB.out.2 hk
  · have := HB1.out; have := HC.out; omega
  · have := HB1.out; omega
  · have := HB1.out; have := HV.out k hk; omega
end Go.Proofs.Ytdinnkacilgmmaa
namespace Go.Proofs.Ytdinnkacilgmmaa
open Go.RowKit

theorem splice_at {n m : Nat} (A B Z : List UInt8) (hA : A.length = n) (hB : B.length = m) (hZ : m ≤ Z.length) : splice (A ++ Z) n B = A ++ B ++ Z.drop m := by
  subst hA hB
  unfold splice
  rw [List.take_left, List.drop_append]
  simp
theorem slot_fill (R : Rt) :
    (splice (splice (splice (List.replicate 21 0) 0 (le 8 R.gen)) 8 (le 4 (R.page + 1).toNat)) 12 (le 8 R.next)).set 20 (UInt8.ofNat R.mt.length) = slotPre R := by
  have e1 : splice (List.replicate 21 (0 : UInt8)) 0 (le 8 R.gen) = le 8 R.gen ++ List.replicate 13 0 := by
    unfold splice; rw [le_length, List.take_zero, List.nil_append, List.drop_replicate]
  rw [e1, splice_at _ _ _ (le_length _ _) (le_length _ _) (by simp), List.drop_replicate, splice_at _ _ _ (by simp [le_length]) (le_length _ _) (by simp), List.drop_replicate]
  rw [List.set_append_right _ _ (by simp [le_length])]
  simp only [List.length_append, le_length]
  rfl

set_option maxHeartbeats 1000000 in
set_option maxRecDepth 100000 in
theorem slot_any {w : World} (R : Rt) (hR : R.ok) (a : Option Addr) (n cap : Nat) (hn : R.mt.length = n) (ha : a = none → cap = 0) (hb : BytesAt w a R.mt) (C : Nat) (hC : C ≤ w.heap.size) :
    Calls Try.prog 111 #[rootV R (.slice a n cap)] w fun e w' => ∃ v, e = .returned v ∧ OwnB w' C v (slotB R) ∧ Mod (fun _ => False) w w' ∧ (∀ k, v.ownBlock = some k → w.heap.size ≤ k) := by
  subst hn
  unfold rootV
  obtain ⟨W1, hW1⟩ : ∃ W1, W1 = w.alloc (.cells #[.int .i64 (R.gen : Int), .int .i64 R.page, .int .i64 (R.next : Int), .slice a R.mt.length cap] 95) := ⟨_, rfl⟩
  obtain ⟨b1, hb1⟩ : ∃ b1, b1 = w.heap.size := ⟨_, rfl⟩
  have k1 : W1.heap[b1]? = some (.cells #[.int .i64 (R.gen : Int), .int .i64 R.page, .int .i64 (R.next : Int), .slice a R.mt.length cap] 95 (0, 0)) := by rw [hW1, hb1]; exact heap_alloc_new _ _
  have m1 : Mod (fun _ => False) w W1 := by rw [hW1]; exact Mod.alloc _ _ _
  have s1 : W1.heap.size = b1 + 1 := by rw [hW1, hb1]; simp
  obtain ⟨W2, hW2⟩ : ∃ W2, W2 = W1.alloc (.cells (zerosV 21) 5) := ⟨_, rfl⟩
  have m2 : Mod (fun _ => False) W1 W2 := by rw [hW2]; exact Mod.alloc _ _ _
  have o2 : OwnB W2 (b1 + 1) (.slice (some ⟨b1 + 1, 0, none⟩) 21 21) (List.replicate 21 0) := by
    have := OwnB.made W1 (b1 + 1) (List.replicate 21 0) (zerosV 21) rfl (by omega) (by rw [List.length_replicate]; decide)
    rw [List.length_replicate, ← hW2, s1] at this
    exact this
  have km : (Instr.makeSlice 22 (.int .i64 21) (.int .i64 21)).run Try.prog W1 = .ok (.slice (some ⟨b1 + 1, 0, none⟩) 21 21) W2 := by
    rw [hW2, ← s1]; exact run_make_bytes W1 21 (by decide)
  have hg := hR.gen
  have hp := hR.page
  have hx := hR.next
  have hmt := hR.mt
  have wp : IntKind.i64.wrap (R.page + 1) = R.page + 1 := IntWalk.i64_in _ (by omega)
  have wg : IntKind.u64.wrap (R.gen : Int) = (R.gen : Int) := IntWalk.u64_in _ (by omega)
  have wx : IntKind.u64.wrap (R.next : Int) = (R.next : Int) := IntWalk.u64_in _ (by omega)
  obtain ⟨pn, hpn⟩ : ∃ pn : Nat, pn = (R.page + 1).toNat := ⟨_, rfl⟩
  have hpe : R.page + 1 = (pn : Int) := by omega
  have wq : IntKind.u64.wrap (R.page + 1) = (pn : Int) := by rw [hpe]; exact IntWalk.u64_in _ (by omega)
  have k2 := m2.obj k1 id
  have HW1 := Lib.hid hW1
  have M2 := Lib.hid (m1.trans' m2)
  have HB := Lib.hid hb
  have HB1 := Lib.hid hb1
  have HC := Lib.hid hC
  have HPN := Lib.hid hpn
  rw [hW1] at km
  have HPE := Lib.hid hpe
  clear hW2 hW1 m1 m2 hb hC hpn hpe
  go_enter Try.func111, Try.ntmps111
  have hb1' := hb1.symm
  clear hb1
  go_upto_region 2 with fail
  clear hb1'
  have M0 := Lib.hid (Mod.refl (fun k => k = b1 + 1) W2)
  have q0 : W2.cell? ⟨b1, 0, none⟩ = some (.int .i64 (R.gen : Int)) := cell_of_row W2 b1 0 _ 95 (0, 0) k2
  have md : Mod (fun _ => False) W2 W2.drew := Mod.drew _ _
  go_region_held3 (fun w' => w'.cell? ⟨b1, 0, none⟩ = some (.int .i64 (R.gen : Int))) (first | (show _ = _; simpa using q0) | exact hm3.cell' (by simpa using q0) (by show ¬ b1 = b1 + 1; omega))
    ((go_at_call 130; refine (put_any (o2.mod md (fun _ _ => id)) 0 8 21 (by decide) (by simp) R.gen).mono ?_; rintro e w3 ⟨rfl, o3, hm3⟩))
  replace hm3 := (md.mono (G := fun k => k = b1 + 1) (fun _ _ e => e.elim)).trans' hm3
  have k3 := hm3.obj k2 (by omega)
  have q1 : w3.cell? ⟨b1, 1, none⟩ = some (.int .i64 R.page) := cell_of_row w3 b1 1 _ 95 (0, 0) k3
  have M3 := Lib.hid hm3
  clear hm3 md o2 k2 q0
  go_upto_region 3 with fail
  have md : Mod (fun _ => False) w3 w3.drew := Mod.drew _ _
  go_region_held3 (fun w' => w'.cell? ⟨b1, 1, none⟩ = some (.int .i64 R.page)) (first | (show _ = _; simpa using q1) | exact hm3.cell' (by simpa using q1) (by show ¬ b1 = b1 + 1; omega))
    ((go_at_call 130; refine (put_any (o3.mod md (fun _ _ => id)) 8 4 13 (by decide) (by rw [length_splice] <;> simp [le_length]) pn).mono ?_; rintro e w4 ⟨rfl, o4, hm3⟩))
  replace hm3 := (md.mono (G := fun k => k = b1 + 1) (fun _ _ e => e.elim)).trans' hm3
  have k4 := hm3.obj k3 (by omega)
  have q2 : w4.cell? ⟨b1, 2, none⟩ = some (.int .i64 (R.next : Int)) := cell_of_row w4 b1 2 _ 95 (0, 0) k4
  have M4 := Lib.hid (M3.out.trans' hm3)
  clear hm3 md o3 k3 q1
  go_upto_region 4 with fail
  have md : Mod (fun _ => False) w4 w4.drew := Mod.drew _ _
  have hl4 : (splice (splice (List.replicate 21 (0 : UInt8)) 0 (le 8 R.gen)) 8 (le 4 pn)).length = 21 := by
    rw [length_splice, length_splice] <;> simp [length_splice, le_length]
  go_region_held3 (fun w' => w'.cell? ⟨b1, 2, none⟩ = some (.int .i64 (R.next : Int))) (first | (show _ = _; simpa using q2) | exact hm3.cell' (by simpa using q2) (by show ¬ b1 = b1 + 1; omega))
    ((go_at_call 130; refine (put_any (o4.mod md (fun _ _ => id)) 12 8 9 (by decide) (by rw [hl4]; decide) R.next).mono ?_; rintro e w5 ⟨rfl, o5, hm3⟩))
  replace hm3 := (md.mono (G := fun k => k = b1 + 1) (fun _ _ e => e.elim)).trans' hm3
  have k5 := hm3.obj k4 (by omega)
  have q3 : w5.cell? ⟨b1, 3, none⟩ = some (.slice a R.mt.length cap) := cell_of_row w5 b1 3 _ 95 (0, 0) k5
  have M5 := Lib.hid (M4.out.trans' hm3)
  clear hm3 md o4 k4 q2
  have hl5 : (splice (splice (splice (List.replicate 21 (0 : UInt8)) 0 (le 8 R.gen)) 8 (le 4 pn)) 12 (le 8 R.next)).length = 21 := by
    rw [length_splice _ _ _ (by rw [hl4, le_length]; decide), hl4]
  obtain ⟨y0, y1⟩ := o5.cellAt 20 (by omega)
  have o6 := o5.store 20 (UInt8.ofNat R.mt.length)
  have hbv : byteV (UInt8.ofNat R.mt.length) = Value.int .u8 (R.mt.length : Int) := by
    show Value.int .u8 ((UInt8.ofNat R.mt.length).toNat : Int) = _
    rw [UInt8.toNat_ofNat']
    congr 1
    omega
  rw [HPN.out, slot_fill, hbv] at o6
  generalize (splice (splice (splice (List.replicate 21 (0 : UInt8)) 0 (le 8 R.gen)) 8 (le 4 pn)) 12 (le 8 R.next))[20] = cz at *
  have hb5 := HB.out.mod (M2.out.trans M5.out (fun j hj e => by have := HB1.out; omega)) (fun _ _ _ => id)
  have hlt : ∀ x, a = some x → R.mt ≠ [] → ¬ x.block = b1 + 1 := fun x hx hne e => by
    have h := HB.out
    rw [hx] at h
    have := h.lt hne
    have := HB1.out
    omega
  have hb6 : BytesAt (w5.setCell ⟨b1 + 1, 20, none⟩ (Value.int .u8 (R.mt.length : Int))) a R.mt := hb5.mod (Mod.setCell (F := fun k => k = b1 + 1) _ _ _ rfl) hlt
  have m6 : Mod (fun k => k = b1 + 1) W2 (w5.setCell ⟨b1 + 1, 20, none⟩ (Value.int .u8 (R.mt.length : Int))) := M5.out.trans' (Mod.setCell (F := fun k => k = b1 + 1) _ _ _ rfl)
  have h6 : b1 + 1 ≤ (w5.setCell ⟨b1 + 1, 20, none⟩ (Value.int .u8 (R.mt.length : Int))).heap.size := Nat.le_of_lt (World.ownsRow.lt o6 (b1 + 1) rfl).2
  have hpl := slotPre_length R
  have O6 := Lib.hid o6
  have HB6 := Lib.hid hb6
  have M6 := Lib.hid m6
  have H6 := Lib.hid h6
  have HPL := Lib.hid hpl
  have HA := Lib.hid ha
  have HR := Lib.hid hR
  clear o5 o6 hb5 hb6 hl4 hl5 k5 hbv hlt h6 hpl k1 km M0 ha hR m6
  go_upto_region 6 with fail
  go_wp2_with (first
    | (at_builtin; refine appB rfl _ _ rfl (b1 + 1) _ (slotPre R) rfl O6.out _ _ _ R.mt rfl rfl HA.out HB6.out (by rw [HPL.out]; omega) H6.out ?_; intro v7 w7 o7 m7 hn7))
  replace m7 : Mod (fun k => k = b1 + 1) _ w7 := m7.mono (fun k _ e => by injection e)
  have m8 : Mod (fun _ => False) w w7 := M2.out.trans (M6.out.trans' m7) (fun j hj e => by have := HB1.out; omega)
  obtain ⟨a7, c7, rfl, -, -, hb7⟩ := o7.shape
  have hl7 : (slotPre R ++ R.mt).length ≤ 252 := by rw [List.length_append, HPL.out]; omega
  refine (sealed_any a7 (slotPre R ++ R.mt) _ c7 rfl hl7 hb7 w7.heap.size (Nat.le_refl _)).mono ?_
  rintro e w9 ⟨v, rfl, o9, m9, hv⟩
  have O9 := Lib.hid o9
  have M9 := Lib.hid (m8.trans' m9)
  have M8 := Lib.hid m8
  have HV := Lib.hid hv
  clear o9 m9 m8 hv o7 m7 hn7 hb7
  go_wp2
  go_ret
  exact ⟨_, rfl, O9.out.weaken (by have := M8.out.size; have := HC.out; omega), M9.out, fun k hk => by have := HV.out k hk; have := M8.out.size; omega⟩
end Go.Proofs.Ytdinnkacilgmmaa
namespace Go.Proofs.Ytdinnkacilgmmaa
open Go.RowKit

/-- a sector, read as a slot -/
def rootOf (pages : Nat) (s : List UInt8) : Option Rt :=
  if sound s = true ∧ 1 ≤ unle ((s.drop 4).take 8) ∧ unle ((s.drop 4).take 8) ≤ 1152921504606846976 ∧ unle ((s.drop 12).take 4) ≤ pages ∧ 1 ≤ unle ((s.drop 16).take 8) ∧ unle ((s.drop 16).take 8) ≤ 1152921504606846976 ∧ (s.getD 24 0).toNat ≤ 100 then
    some ⟨unle ((s.drop 4).take 8), (unle ((s.drop 12).take 4) : Int) - 1, unle ((s.drop 16).take 8), (s.drop 25).take (s.getD 24 0).toNat⟩
  else none
def zeroRt : Value := .agg #[.int .i64 0, .int .i64 0, .int .i64 0, .slice none 0 0]
def SlotSaid (o : Option Rt) (H : Nat) (e : Ending) (w' : World) : Prop :=
  (o = none ∧ e = .returned (.tuple #[zeroRt, .bool false])) ∨
  ∃ R v, o = some R ∧ e = .returned (.tuple #[rootV R v, .bool true]) ∧ OwnB w' H v R.mt

theorem results_95b {fn : Func} {p t : Tmp} {b : Nat} {v x : Value} (h : fn.results = #[.cell p 95, .tmp t]) (tmps : Array Value) (w : World) (hp : tmps.getD p undef = .pointer (some ⟨b, 0, none⟩)) (hc : RtCell w b v) (ht : tmps.getD t undef = x) :
    (results fn tmps).run Try.prog w = .ok (.tuple #[v, x]) w := by
  obtain ⟨x0, x1, x2, x3, rfl, h0, h1, h2, h3⟩ := hc
  simp only [results, h]
  have hp' : tmps[p]?.getD undef = .pointer (some ⟨b, 0, none⟩) := by simpa using hp
  have ht' : tmps[t]?.getD undef = x := by simpa using ht
  simp [hp', ht', asAddr, go_sem, h0, h1, h2, h3]

set_option maxHeartbeats 2000000 in
set_option maxRecDepth 100000 in
theorem readSlot_any {w : World} {B B2 q p : Nat} {vm : Value} {P : Pgr} {D : Dsk} {F : Nat → Prop} (hp : PgV w B q p vm P) (hd : DiskAt w B2 p D F) (n : Nat) (hn : n < D.N) (hpg : P.pages ≤ 4096) :
    Calls Try.prog 103 #[.pointer (some ⟨q, 0, none⟩), .int .i64 (n : Int)] w fun e w' => SlotSaid (rootOf P.pages (sector D.now n)) w.heap.size e w' ∧ Mod (fun _ => False) w w' := by
  have hwr : D.wrong (n : Int) = 0 := by unfold Dsk.wrong; rw [if_neg (by omega)]
  have KR : ∀ w', Mod (fun _ => False) w w' → Calls Try.prog 37 #[.pointer (some ⟨p, 0, none⟩), .int .i64 (n : Int)] w' fun e w'' => ∃ v, e = .returned (.tuple #[v, .int .i64 0]) ∧ OwnB w'' w.heap.size v (sector D.now n) ∧ Mod (fun _ => False) w' w'' := fun w' hm =>
    ((hd.mod hm (fun _ _ => id)).read (n : Int) w.heap.size hm.size).mono fun e w'' ⟨v, he, ho, hm', _⟩ => ⟨v, by rw [he, hwr], by rw [hwr, if_pos rfl] at ho; exact ho, hm'⟩
  have hsl : (sector D.now n).length = 256 := sector_length _ _ _ (by rw [hd.wf.now]; exact Nat.le_of_eq hd.wf.len.symm) hn
  have m1 : Mod (fun _ => False) w (w.alloc (.cells #[.int .i64 0, .int .i64 0, .int .i64 0, .slice none 0 0] 95)) := Mod.alloc _ _ _
  have kb := heap_alloc_new w (.cells #[.int .i64 0, .int .i64 0, .int .i64 0, .slice none 0 0] 95)
  have c0 := (m1.cell' hp.head.1 id)
  have hpgl : (P.pages : Int) ≤ 4096 := by omega
  replace KR := Lib.hid KR
  have HSL := Lib.hid hsl
  have HP := Lib.hid hp
  have HM1 := Lib.hid m1
  have KB := Lib.hid kb
  clear hwr hsl hd hp kb m1
  generalize sector D.now n = s at *
  obtain ⟨o, ho⟩ : ∃ o, o = rootOf P.pages s := ⟨_, rfl⟩
  rw [← ho]
  have HO1 := Lib.hid ho
  clear ho
  go_enter Try.func103, Try.ntmps103
  go_wp2_with (first
    | (go_at_call 37; refine (KR.out _ (by first | exact HM1.out)).mono ?_; rintro e wb ⟨v, rfl, ob, mb⟩))
  obtain ⟨g, cap, cur, ev, -, hgg, hle, -⟩ := ob.row (by intro e; have := HSL.out; rw [e] at this; cases this)
  rw [HSL.out] at ev hle
  subst ev
  have hgb : w.heap.size < g := by
    have h1 := (World.ownsRow.lt ob g rfl).1
    rcases Nat.lt_or_eq_of_le h1 with h | h
    · exact h
    · exfalso
      have := mb.obj KB.out id
      rw [← h, this] at hgg
      injection hgg with hgg
      injection hgg with _ h2
      cases h2
  refine (opened_any ob HSL.out hle).mono ?_
  rintro e wc ⟨rfl, mc⟩
  have kc := mc.obj (mb.obj KB.out id) id
  have hcc := fun j => cell_of_row wc w.heap.size j _ 95 (0, 0) kc
  have e0 := hcc 0
  have e1 := hcc 1
  have e2 := hcc 2
  have e3 := hcc 3
  simp only [List.getElem?_toArray, List.getElem?_cons_zero, List.getElem?_cons_succ] at e0 e1 e2 e3
  have g0 := thaw_of (i := 0) kc
  have g1 := thaw_of (i := 1) kc
  have g2 := thaw_of (i := 2) kc
  have g3 := thaw_of (i := 3) kc
  have KC := Lib.hid kc
  have MC := Lib.hid ((HM1.out.trans' mb).trans' mc)
  have OC := Lib.hid (ob.mod mc (fun _ _ => id))
  have C2 := Lib.hid (((HM1.out.trans' mb).trans' mc).cell' HP.out.head.2.2 id)
  clear kc hcc ob mb mc c0 KR HM1 KB
  cases hs : sound s
  · have hno : o = none := by rw [HO1.out]; unfold rootOf; rw [if_neg]; rintro ⟨h, -⟩; rw [hs] at h; cases h
    have HNO := Lib.hid hno
    clear hno hs
    go_wp2
    have k5 := set4 KC.out (.int .i64 0) (.int .i64 0) (.int .i64 0) (.slice none 0 0)
    refine bodyPost_ret (results_95b rfl _ _ rfl (RtCell.of k5) rfl) rfl ⟨.inl ⟨HNO.out, rfl⟩, MC.out.trans (mod4 (F := fun k => k = w.heap.size) _ _ rfl _ _ _ _) (fun k hk e => by omega)⟩
  · have hbs := (OwnB.bytes OC.out).2
    have b1 := (hbs.sub 4 8)
    have b2 := (hbs.sub 12 4)
    have b3 := (hbs.sub 16 8)
    have x24 := (OC.out.cellAt 24 (by rw [HSL.out]; decide)).1
    have hg24 : s.getD 24 0 = s[24]'(by rw [HSL.out]; decide) := by simp [List.getD_eq_getElem?_getD, List.getElem?_eq_getElem (show 24 < s.length by rw [HSL.out]; decide)]
    rw [← hg24] at x24
    have ho := HO1.out
    unfold rootOf at ho
    have L1 : ((s.drop 4).take 8).length = 8 := by rw [List.length_take, List.length_drop, HSL.out]; decide
    have L2 : ((s.drop 12).take 4).length = 4 := by rw [List.length_take, List.length_drop, HSL.out]; decide
    have L3 : ((s.drop 16).take 8).length = 8 := by rw [List.length_take, List.length_drop, HSL.out]; decide
    have u1 := unle_lt ((s.drop 4).take 8)
    have u2 := unle_lt ((s.drop 12).take 4)
    have u3 := unle_lt ((s.drop 16).take 8)
    rw [L1] at u1
    rw [L2] at u2
    rw [L3] at u3
    have K1 : ∀ w', Mod (fun _ => False) wc w' → Calls Try.prog 128 #[.slice (some ⟨g, 4, none⟩) 8 (cap - 4)] w' fun e w'' => e = .returned (.int .u64 (unle ((s.drop 4).take 8) : Int)) ∧ Mod (fun _ => False) wc w'' := fun w' hm' =>
      (get_any w' (some ⟨g, 4, none⟩) _ 8 _ L1 (by rw [Nat.zero_add] at b1; exact b1.mod hm' (fun _ _ _ => id)) (by rw [L1]; decide)).mono fun e w'' ⟨he, hm⟩ => ⟨he, hm'.trans' hm⟩
    have K2 : ∀ w', Mod (fun _ => False) wc w' → Calls Try.prog 128 #[.slice (some ⟨g, 12, none⟩) 4 (cap - 4 - 8)] w' fun e w'' => e = .returned (.int .u64 (unle ((s.drop 12).take 4) : Int)) ∧ Mod (fun _ => False) wc w'' := fun w' hm' =>
      (get_any w' (some ⟨g, 12, none⟩) _ 4 _ L2 (by rw [Nat.zero_add] at b2; exact b2.mod hm' (fun _ _ _ => id)) (by rw [L2]; decide)).mono fun e w'' ⟨he, hm⟩ => ⟨he, hm'.trans' hm⟩
    have K3 : ∀ w', Mod (fun _ => False) wc w' → Calls Try.prog 128 #[.slice (some ⟨g, 16, none⟩) 8 (cap - 4 - 12)] w' fun e w'' => e = .returned (.int .u64 (unle ((s.drop 16).take 8) : Int)) ∧ Mod (fun _ => False) wc w'' := fun w' hm' =>
      (get_any w' (some ⟨g, 16, none⟩) _ 8 _ L3 (by rw [Nat.zero_add] at b3; exact b3.mod hm' (fun _ _ _ => id)) (by rw [L3]; decide)).mono fun e w'' ⟨he, hm⟩ => ⟨he, hm'.trans' hm⟩
    replace K1 := Lib.hid K1
    replace K2 := Lib.hid K2
    replace K3 := Lib.hid K3
    clear hbs b1 b2 b3 L1 L2 L3 hg24
    generalize unle ((s.drop 4).take 8) = X at *
    generalize unle ((s.drop 12).take 4) = Y at *
    generalize unle ((s.drop 16).take 8) = Z at *
    generalize s.getD 24 0 = f at *
    have HO := Lib.hid ho
    clear ho HO1
    have hc8' : 252 ≤ cap - 4 := by omega
    generalize cap - 4 = c4 at *
    have hcap8 : (8 : Int) ≤ (c4 : Int) := by omega
    have hcap12 : (12 : Int) ≤ (c4 : Int) := by omega
    have hcap20 : (20 : Int) ≤ (c4 : Int) := by omega
    have hne8 : ¬ (c4 = 8) := by omega
    have hne12 : ¬ (c4 = 12) := by omega
    have hne0 : ¬ (c4 = 0) := by omega
    have md : Mod (fun _ => False) wc wc.drew := Mod.drew _ _
    go_upto_region 7 with fail
    go_region_held3 (fun w' => Mod (fun _ => False) wc w' ∧ w'.cell? ⟨g, 24, none⟩ = some (byteV f)) (exact ⟨by assumption, (by assumption : Mod (fun _ => False) wc _).cell' x24 id⟩)
      (first
        | (go_at_call 128; (with_reducible refine (K1.out _ (by assumption)).mono ?_); rintro e w1 ⟨rfl, hm1⟩)
        | (go_at_call 128; (with_reducible refine (K2.out _ (by assumption)).mono ?_); rintro e w1 ⟨rfl, hm1⟩)
        | (go_at_call 128; (with_reducible refine (K3.out _ (by assumption)).mono ?_); rintro e w1 ⟨rfl, hm1⟩))
    have wf : IntKind.i64.wrap (f.toNat : Int) = (f.toNat : Int) := IntWalk.i64_in _ (by have := f.toNat_lt; omega)
    rw [wf]
    replace e0 := hm1.cell' e0 id
    replace e1 := hm1.cell' e1 id
    replace e2 := hm1.cell' e2 id
    replace e3 := hm1.cell' e3 id
    have kc := hm1.obj KC.out id
    replace g0 := thaw_of (i := 0) kc
    replace g1 := thaw_of (i := 1) kc
    replace g2 := thaw_of (i := 2) kc
    replace g3 := thaw_of (i := 3) kc
    have c2 := hm1.cell' C2.out id
    have M1 := Lib.hid (MC.out.trans' hm1)
    have O1 := Lib.hid (OC.out.mod hm1 (fun _ _ => id))
    have K1c := Lib.hid kc
    have wp : IntKind.u64.wrap (P.pages : Int) = (P.pages : Int) := IntWalk.u64_in _ (by omega)
    clear x24 hm1 kc K1 K2 K3 md wf KC OC C2 MC
    by_cases hok : 1 ≤ X ∧ X ≤ 1152921504606846976 ∧ Y ≤ P.pages ∧ 1 ≤ Z ∧ Z ≤ 1152921504606846976 ∧ f.toNat ≤ 100
    · obtain ⟨h1, h2, h3, h4, h5, h6⟩ := hok
      have hyes : o = some ⟨X, (Y : Int) - 1, Z, (s.drop 25).take f.toNat⟩ := by rw [HO.out, if_pos ⟨hs, h1, h2, h3, h4, h5, h6⟩]
      have HYES := Lib.hid hyes
      clear hyes hs
      have a1 : ¬ (X : Int) < 1 := by omega
      have a2 : ¬ 1152921504606846976 < (X : Int) := by omega
      have a3 : ¬ (P.pages : Int) < (Y : Int) := by omega
      have a4 : ¬ (Z : Int) < 1 := by omega
      have a5 : ¬ 1152921504606846976 < (Z : Int) := by omega
      have a6 : ¬ (100 : Int) < (f.toNat : Int) := by omega
      have w1' : IntKind.i64.wrap (X : Int) = (X : Int) := IntWalk.i64_in _ (by omega)
      have w2' : IntKind.i64.wrap (Y : Int) = (Y : Int) := IntWalk.i64_in _ (by omega)
      have w3' : IntKind.i64.wrap (Z : Int) = (Z : Int) := IntWalk.i64_in _ (by omega)
      have w4' : IntKind.i64.wrap ((Y : Int) - 1) = (Y : Int) - 1 := IntWalk.i64_in _ (by omega)
      have w5' : IntKind.i64.wrap (21 + (f.toNat : Int)) = 21 + (f.toNat : Int) := IntWalk.i64_in _ (by omega)
      have hlm : ((s.drop 25).take f.toNat).length = f.toNat := by rw [List.length_take, List.length_drop, HSL.out]; omega
      have hbm := (OwnB.bytes O1.out).2.sub 25 f.toNat
      rw [Nat.zero_add] at hbm
      have HLM := Lib.hid hlm
      have HBM := Lib.hid hbm
      clear HO
      generalize (s.drop 25).take f.toNat = mt at *
      clear hlm hbm h1 h2 h3 h4 h5 h6
      have k1 : (0 : Int) ≤ 21 + (f.toNat : Int) := by omega
      have k2 : (21 : Int) + (f.toNat : Int) ≤ (c4 : Int) := by omega
      have k3 : (21 : Int) ≤ 21 + (f.toNat : Int) := by omega
      have k4 : ((21 : Int) + (f.toNat : Int)).toNat = 21 + f.toNat := by omega
      have k7 : ¬ (c4 = 21) := by omega
      go_wp2_with fail
      refine (clone_n (some ⟨g, 25, none⟩) mt _ _ w1 w1.heap.size HLM.out (Nat.le_refl _) (by rw [HLM.out]; omega) (fun e => by cases e) HBM.out).mono ?_
      rintro e w3 ⟨v, rfl, o3, m3, hv⟩
      obtain ⟨av, cv, rfl, -, -, -⟩ := o3.shape
      replace e0 := m3.cell' e0 id
      replace e1 := m3.cell' e1 id
      replace e2 := m3.cell' e2 id
      replace e3 := m3.cell' e3 id
      have kc := m3.obj K1c.out id
      replace g0 := thaw_of (i := 0) kc
      replace g1 := thaw_of (i := 1) kc
      replace g2 := thaw_of (i := 2) kc
      replace g3 := thaw_of (i := 3) kc
      have hs1 := M1.out.size
      have hlw := lt_of_block K1c.out
      have KC := Lib.hid kc
      have O3 := Lib.hid (o3.weaken (B := w.heap.size) (by omega))
      have M3 := Lib.hid (M1.out.trans' m3)
      have HV := Lib.hid (fun (k : Nat) (hk : (Value.slice av mt.length cv).ownBlock = some k) => hv k hk)
      clear kc o3 m3 hv hgg
      go_wp2
      have k5 := set4 KC.out (.int .i64 (X : Int)) (.int .i64 ((Y : Int) - 1)) (.int .i64 (Z : Int)) (.slice av mt.length cv)
      refine bodyPost_ret (results_95b rfl _ _ rfl (RtCell.of k5) rfl) rfl ⟨.inr ⟨_, _, HYES.out, rfl, O3.out.mod (mod4 (F := fun k => k = w.heap.size) _ _ rfl _ _ _ _) (fun k hk e => ?_)⟩, M3.out.trans (mod4 (F := fun k => k = w.heap.size) _ _ rfl _ _ _ _) (fun k hk e => by omega)⟩
      have := HV.out k hk
      omega
    · have hno : o = none := by rw [HO.out, if_neg]; rintro ⟨-, h⟩; exact hok h
      have HNO := Lib.hid hno
      clear hno hs
      have hbad : (X : Int) < 1 ∨ (¬ (X : Int) < 1 ∧ 1152921504606846976 < (X : Int)) ∨ (¬ (X : Int) < 1 ∧ ¬ 1152921504606846976 < (X : Int) ∧ (P.pages : Int) < (Y : Int)) ∨
          (¬ (X : Int) < 1 ∧ ¬ 1152921504606846976 < (X : Int) ∧ ¬ (P.pages : Int) < (Y : Int) ∧ (Z : Int) < 1) ∨
          (¬ (X : Int) < 1 ∧ ¬ 1152921504606846976 < (X : Int) ∧ ¬ (P.pages : Int) < (Y : Int) ∧ ¬ (Z : Int) < 1 ∧ 1152921504606846976 < (Z : Int)) ∨
          (¬ (X : Int) < 1 ∧ ¬ 1152921504606846976 < (X : Int) ∧ ¬ (P.pages : Int) < (Y : Int) ∧ ¬ (Z : Int) < 1 ∧ ¬ 1152921504606846976 < (Z : Int) ∧ (100 : Int) < (f.toNat : Int)) := by omega
      clear hok
      rcases hbad with h1 | ⟨h1, h2⟩ | ⟨h1, h2, h3⟩ | ⟨h1, h2, h3, h4⟩ | ⟨h1, h2, h3, h4, h5⟩ | ⟨h1, h2, h3, h4, h5, h6⟩
      all_goals
        go_wp2
        have k5 := set4 K1c.out (.int .i64 0) (.int .i64 0) (.int .i64 0) (.slice none 0 0)
        refine bodyPost_ret (results_95b rfl _ _ rfl (RtCell.of k5) rfl) rfl ⟨.inl ⟨HNO.out, rfl⟩, M1.out.trans (mod4 (F := fun k => k = w.heap.size) _ _ rfl _ _ _ _) (fun k hk e => by omega)⟩
end Go.Proofs.Ytdinnkacilgmmaa
namespace Go.Proofs.Ytdinnkacilgmmaa
open Go.RowKit

theorem pg_tail {h0 h1 h2 : Value} {s : List UInt8} (hs : s.length = 4096) (tl : List Value) (j : Nat) (x : Value) :
    (h0 :: h1 :: h2 :: (s.map byteV ++ tl)).toArray.setIfInBounds (4099 + j) x = (h0 :: h1 :: h2 :: (s.map byteV ++ tl.set j x)).toArray := by
  rw [List.setIfInBounds_toArray, show 4099 + j = (4096 + j) + 1 + 1 + 1 by omega]
  simp only [List.set_cons_succ]
  rw [List.set_append_right _ _ (by rw [List.length_map]; omega), List.length_map, hs, Nat.add_sub_cancel_left]
theorem pg_is {h0 h1 h2 : Value} {s : List UInt8} (tl : List Value) (j : Nat) (hj : j < s.length) (c : UInt8) :
    (h0 :: h1 :: h2 :: (s.map byteV ++ tl)).toArray.setIfInBounds (3 + j) (byteV c) = (h0 :: h1 :: h2 :: ((s.set j c).map byteV ++ tl)).toArray := by
  rw [List.setIfInBounds_toArray, show 3 + j = j + 1 + 1 + 1 by omega]
  simp only [List.set_cons_succ]
  rw [List.set_append_left _ _ (by rw [List.length_map]; omega), List.map_set]
theorem pg_head (h0 h1 h2 x0 x1 x2 : Value) (t : List Value) : (((h0 :: h1 :: h2 :: t).toArray.setIfInBounds 0 x0).setIfInBounds 1 x1).setIfInBounds 2 x2 = (x0 :: x1 :: x2 :: t).toArray := rfl

/-- one cell of the root, or the flag, is written -/
theorem PgV.ne {w : World} {B q p : Nat} {vm : Value} {P : Pgr} (h : PgV w B q p vm P) : vm.ownBlock ≠ some q := fun e => by
  rcases h.mt.2 with ⟨rfl, _⟩ | ⟨g', cap, cur, rfl, _, hgg, _⟩
  · simp [Value.ownBlock] at e
  · simp [Value.ownBlock] at e
    subst e
    rw [h.at_] at hgg
    injection hgg with hgg
    injection hgg with _ h2
    cases h2
theorem PgV.setDead {w : World} {B q p : Nat} {vm : Value} {P : Pgr} (h : PgV w B q p vm P) (b : Bool) : PgV (w.setCell ⟨q, 4103, none⟩ (.bool b)) B q p vm { P with dead := b } :=
  ⟨by rw [setCell_block h.at_]; exact congrArg (fun C => some (Obj.cells C 153 (0, 0))) (pg_tail h.len _ 4 _), h.hq, h.mt.mod (Mod.setCell (F := fun k => k = q) w _ _ rfl) (fun k hk e => h.ne (by rw [hk, e])), h.len⟩
theorem PgV.setIs {w : World} {B q p : Nat} {vm : Value} {P : Pgr} (h : PgV w B q p vm P) (j : Nat) (hj : j < 4096) (c : UInt8) : PgV (w.setCell ⟨q, 3 + j, none⟩ (byteV c)) B q p vm { P with is_ := P.is_.set j c } :=
  ⟨by rw [setCell_block h.at_]; exact congrArg (fun C => some (Obj.cells C 153 (0, 0))) (pg_is _ j (by rw [h.len]; exact hj) c), h.hq, h.mt.mod (Mod.setCell (F := fun k => k = q) w _ _ rfl) (fun k hk e => h.ne (by rw [hk, e])), by
    show (P.is_.set j c).length = 4096
    rw [List.length_set, h.len]⟩
theorem PgV.setRoot {w : World} {B q p : Nat} {vm vm' : Value} {P : Pgr} (h : PgV w B q p vm P) (R : Rt) (ho : OwnB w B vm' R.mt) :
    PgV ((((w.setCell ⟨q, 4099, none⟩ (.int .i64 (R.gen : Int))).setCell ⟨q, 4100, none⟩ (.int .i64 R.page)).setCell ⟨q, 4101, none⟩ (.int .i64 (R.next : Int))).setCell ⟨q, 4102, none⟩ vm') B q p vm' { P with root := R } := by
  have hne : vm'.ownBlock ≠ some q := fun e => by
    rcases ho.2 with ⟨rfl, _⟩ | ⟨g', cap, cur, rfl, _, hgg, _⟩
    · simp [Value.ownBlock] at e
    · simp [Value.ownBlock] at e
      subst e
      rw [h.at_] at hgg
      injection hgg with hgg
      injection hgg with _ h2
      cases h2
  have hM : ∀ (w : World) (j : Nat) (x : Value), Mod (fun k => k = q) w (w.setCell ⟨q, j, none⟩ x) := fun w j x => Mod.setCell _ _ _ rfl
  refine ⟨?_, h.hq, ho.mod ((((hM _ _ _).trans' (hM _ _ _)).trans' (hM _ _ _)).trans' (hM _ _ _)) (fun k hk e => hne (by rw [hk, e])), h.len⟩
  refine (setCell_block (setCell_block (setCell_block (setCell_block h.at_ _) _) _) _).trans ?_
  refine congrArg (fun C => some (Obj.cells C 153 (0, 0))) ?_
  unfold pgCells
  rw [show (4099 : Nat) = 4099 + 0 by rfl, pg_tail h.len, show (4100 : Nat) = 4099 + 1 by rfl, pg_tail h.len, show (4101 : Nat) = 4099 + 2 by rfl, pg_tail h.len, show (4102 : Nat) = 4099 + 3 by rfl, pg_tail h.len]
  rfl

def zeros4096 : List UInt8 := List.replicate 4096 0
theorem zeros4096_length : zeros4096.length = 4096 := List.length_replicate
theorem zero153 : Try.zeroCells153 = (Value.pointer none :: .int .i64 0 :: .int .i64 0 :: (zeros4096.map byteV ++ [.int .i64 0, .int .i64 0, .int .i64 0, .slice none 0 0, .bool false])).toArray := by kernel_rfl
theorem pg_new (p frm : Nat) (pages : Int) (n : Nat) (hn : pages = (n : Int)) : (((((((Try.zeroCells153.setIfInBounds 0 (Value.pointer (some ⟨p, 0, none⟩))).setIfInBounds 1 (.int .i64 (frm : Int))).setIfInBounds 2 (.int .i64 pages)).setIfInBounds 4099 (.int .i64 0)).setIfInBounds 4100 (.int .i64 (-1))).setIfInBounds 4101 (.int .i64 1)).setIfInBounds 4102 (.slice none 0 0)) =
    (pgCells p (.slice none 0 0) ⟨frm, n, zeros4096, Rt.none, false⟩).toArray := by
  subst hn
  rw [zero153, pg_head]
  rw [show (4099 : Nat) = 4099 + 0 by rfl, pg_tail zeros4096_length, show (4100 : Nat) = 4099 + 1 by rfl, pg_tail zeros4096_length, show (4101 : Nat) = 4099 + 2 by rfl, pg_tail zeros4096_length, show (4102 : Nat) = 4099 + 3 by rfl, pg_tail zeros4096_length]
  rfl

def Rt.better (r : Rt) (o : Option Rt) : Rt := match o with | some x => if r.gen < x.gen then x else r | Option.none => r

/-- the root that is found behind i slots -/
def bestAt (pages frm : Nat) (D : Dsk) : Nat → Rt
  | 0 => Rt.none
  | i + 1 => (bestAt pages frm D i).better (rootOf pages (sector D.now (frm + i)))
theorem Rt.none_ok : Rt.none.ok := ⟨by decide, by decide, by decide, by decide⟩
theorem rootOf_ok {pages : Nat} {s : List UInt8} {R : Rt} (hp : pages ≤ 4096) (h : rootOf pages s = some R) : R.ok := by
  unfold rootOf at h
  split at h
  · rename_i c
    obtain ⟨-, h1, h2, h3, h4, h5, h6⟩ := c
    injection h with h
    subst h
    exact ⟨by show unle _ < _; omega, by show -1 ≤ (_ : Int) - 1 ∧ (_ : Int) - 1 ≤ 4096; omega, by show unle _ < _; omega, by show (List.take _ _).length ≤ 100; rw [List.length_take]; omega⟩
  · cases h
theorem bestAt_ok {pages frm : Nat} {D : Dsk} (hp : pages ≤ 4096) : ∀ i, (bestAt pages frm D i).ok
  | 0 => Rt.none_ok
  | i + 1 => by
    rw [bestAt]
    unfold Rt.better
    split
    · rename_i x hx
      split
      · exact rootOf_ok hp hx
      · exact bestAt_ok hp i
    · exact bestAt_ok hp i
def Pgr.opened (frm size : Nat) (D : Dsk) : Pgr := ⟨frm, size - 2, zeros4096, bestAt (size - 2) frm D 2, false⟩
structure OpI (w : World) (p frm size : Nat) (D : Dsk) (i : Nat) (W : World) : Prop where
  pg : ∃ vm, PgV W (w.heap.size + 1) (w.heap.size + 1) p vm ⟨frm, size - 2, zeros4096, bestAt (size - 2) frm D i, false⟩
  m : Mod (fun _ => False) w W
  r : W.heap[w.heap.size]? = some (.cells #[.int .i64 0, .int .i64 0, .int .i64 0, .slice none 0 0] 95 (0, 0))

theorem PgV.mod {F : Nat → Prop} {w w' : World} {B q p : Nat} {vm : Value} {P : Pgr} (h : PgV w B q p vm P) (hm : Mod F w w') (hF : ∀ k, k = q ∨ some k = vm.ownBlock → ¬ F k) : PgV w' B q p vm P :=
  ⟨hm.obj h.at_ (hF q (.inl rfl)), h.hq, h.mt.mod hm (fun k hk => hF k (.inr hk.symm)), h.len⟩
theorem mod4q {F : Nat → Prop} (w : World) (b : Nat) (hF : F b) (x0 x1 x2 x3 : Value) :
    Mod F w ((((w.setCell ⟨b, 4099, none⟩ x0).setCell ⟨b, 4100, none⟩ x1).setCell ⟨b, 4101, none⟩ x2).setCell ⟨b, 4102, none⟩ x3) :=
  (((Mod.setCell w _ _ hF).trans' (Mod.setCell _ _ _ hF)).trans' (Mod.setCell _ _ _ hF)).trans' (Mod.setCell _ _ _ hF)
theorem OpI.mod {w W W' : World} {p frm size : Nat} {D : Dsk} {i : Nat} (h : OpI w p frm size D i W) (hm : Mod (fun _ => False) W W') : OpI w p frm size D i W' := by
  obtain ⟨vm, hp⟩ := h.pg
  exact ⟨⟨vm, hp.mod hm (fun _ _ => id)⟩, h.m.trans' hm, hm.obj h.r id⟩
theorem OpI.skip {w W : World} {p frm size : Nat} {D : Dsk} {i : Nat} (h : OpI w p frm size D i W) (hb : bestAt (size - 2) frm D (i + 1) = bestAt (size - 2) frm D i) : OpI w p frm size D (i + 1) W := by
  obtain ⟨vm, hp⟩ := h.pg
  exact ⟨⟨vm, by rw [hb]; exact hp⟩, h.m, h.r⟩

theorem results_t95t {fn : Func} {p t u : Tmp} {b : Nat} {v x y : Value} (h : fn.results = #[.tmp t, .cell p 95, .tmp u]) (tmps : Array Value) (w : World) (hp : tmps.getD p undef = .pointer (some ⟨b, 0, none⟩)) (hc : RtCell w b v) (ht : tmps.getD t undef = x) (hu : tmps.getD u undef = y) :
    (results fn tmps).run Try.prog w = .ok (.tuple #[x, v, y]) w := by
  obtain ⟨x0, x1, x2, x3, rfl, h0, h1, h2, h3⟩ := hc
  simp only [results, h]
  have hp' : tmps[p]?.getD undef = .pointer (some ⟨b, 0, none⟩) := by simpa using hp
  have ht' : tmps[t]?.getD undef = x := by simpa using ht
  have hu' : tmps[u]?.getD undef = y := by simpa using hu
  simp [hp', ht', hu', asAddr, go_sem, h0, h1, h2, h3]

set_option maxHeartbeats 2000000 in
set_option maxRecDepth 100000 in
theorem popen_ok {w : World} {B p : Nat} {D : Dsk} {F : Nat → Prop} (hd : DiskAt w B p D F) (frm size : Nat) (hf : frm ≤ D.N) (hs3 : 3 ≤ size) (hsz : size ≤ D.N - frm) :
    Calls Try.prog 65 #[.pointer (some ⟨p, 0, none⟩), .int .i64 (frm : Int), .int .i64 (size : Int)] w fun e w' => ∃ q vr vm, e = .returned (.tuple #[.pointer (some ⟨q, 0, none⟩), rootV (Pgr.opened frm size D).root vr, .int .i64 0]) ∧
      PgV w' w.heap.size q p vm (Pgr.opened frm size D) ∧ OwnB w' w.heap.size vr (Pgr.opened frm size D).root.mt ∧ Mod (fun _ => False) w w' ∧ vr.ownBlock ≠ some q ∧ (∀ k, vm.ownBlock = some k → vr.ownBlock ≠ some k) := by
  obtain ⟨Ro, hRo⟩ : ∃ Ro, Ro = (Pgr.opened frm size D).root := ⟨_, rfl⟩
  obtain ⟨Po, hPo⟩ : ∃ Po, Po = Pgr.opened frm size D := ⟨_, rfl⟩
  rw [← hRo, ← hPo]
  have HRO := Lib.hid hRo
  have HPO := Lib.hid hPo
  clear hRo hPo
  have KZ : ∀ w', Mod (fun _ => False) w w' → Calls Try.prog 52 #[.pointer (some ⟨p, 0, none⟩)] w' fun e w'' => e = .returned (.int .i64 (D.N : Int)) ∧ w' = w'' := fun w' hm => (hd.mod hm (fun _ _ => id)).size
  have m1 : Mod (fun _ => False) w (w.alloc (.cells #[.int .i64 0, .int .i64 0, .int .i64 0, .slice none 0 0] 95)) := Mod.alloc _ _ _
  have top := hd.wf.top
  have a1 : ¬ (frm : Int) < 0 := by omega
  have a2 : ¬ (D.N : Int) < (frm : Int) := by omega
  have a3 : ¬ (size : Int) < 3 := by omega
  have a4 : ¬ ((D.N : Int) - (frm : Int) < (size : Int)) := by omega
  have w1 : IntKind.i64.wrap ((D.N : Int) - (frm : Int)) = (D.N : Int) - (frm : Int) := IntWalk.i64_in _ (by omega)
  have w2 : IntKind.i64.wrap ((size : Int) - 2) = (size : Int) - 2 := IntWalk.i64_in _ (by omega)
  replace KZ := Lib.hid KZ
  have M1 := Lib.hid m1
  clear m1
  go_enter Try.func65, Try.ntmps65
  go_wp2_with (first
    | (go_at_call 52; refine (KZ.out _ (by first | exact M1.out)).mono ?_; rintro e wb ⟨rfl, rfl⟩))
  rw [pg_new p frm _ (size - 2) (by omega)]
  obtain ⟨W2, hW2⟩ : ∃ W2, W2 = ((w.alloc (.cells #[.int .i64 0, .int .i64 0, .int .i64 0, .slice none 0 0] 95)).alloc (.cells (pgCells p (.slice none 0 0) ⟨frm, size - 2, zeros4096, Rt.none, false⟩).toArray 153)) := ⟨_, rfl⟩
  rw [← hW2]
  have I0 : OpI w p frm size D 0 W2 := by
    refine ⟨⟨.slice none 0 0, ?_, Nat.le_refl _, OwnB.nil _ _, zeros4096_length⟩, ?_, ?_⟩
    · rw [hW2]; exact heap_alloc2_new _ _ _
    · rw [hW2]; exact (Mod.alloc _ _ _).trans' (Mod.alloc _ _ _)
    · rw [hW2]; exact heap_alloc2_old _ _ _
  clear hW2
  generalize (pgCells p (.slice none 0 0) ⟨frm, size - 2, zeros4096, Rt.none, false⟩).toArray = CC
  simp only [show decide ((frm : Int) < 0) = false from decide_eq_false (by omega), show decide (D.N < frm) = false from decide_eq_false (by omega), show decide ((size : Int) < 3) = false from decide_eq_false (by omega), show decide ((D.N : Int) - (frm : Int) < (size : Int)) = false from decide_eq_false (by omega), Bool.or_false]
  have HD := Lib.hid hd
  clear hd a1 a2 a3 a4 w1 w2 KZ M1
  go_loopw [45] (fun v45 wr => ∃ i : Nat, i ≤ 2 ∧ v45 = .int .i64 (i : Int) ∧ OpI w p frm size D i wr) (fun v45 _ => 2 - (intOf v45).toNat)
  case atStart => exact ⟨0, by omega, rfl, I0⟩
  case round =>
    obtain ⟨i, hi, rfl, I⟩ := hrel
    by_cases hlt : i < 2
    · have hlt' : (i : Int) < 2 := by omega
      have w1 : IntKind.i64.wrap ((frm : Int) + (i : Int)) = (frm : Int) + (i : Int) := IntWalk.i64_in _ (by omega)
      obtain ⟨vm, hp⟩ := I.pg
      have hn : frm + i < D.N := by omega
      have hpg : size - 2 ≤ 4096 := by omega
      have KS := readSlot_any hp (HD.out.mod I.m (fun _ _ => id)) (frm + i) hn hpg
      rw [show (((frm + i : Nat)) : Int) = (frm : Int) + (i : Int) by omega] at KS
      replace KS := Lib.hid KS
      have II := Lib.hid I
      clear I I0 hp
      go_wp2_with fail
      refine KS.out.mono ?_
      rintro e w3 ⟨hS, m3⟩
      have I3 := II.out.mod m3
      rcases hS with ⟨hno, rfl⟩ | ⟨R, v, hsome, rfl, ho⟩
      · unfold zeroRt
        have I4 := I3.mod (Mod.alloc _ _ (.cells #[.int .i64 0, .int .i64 0, .int .i64 0, .slice none 0 0] 95))
        have I5 := (I4.mod (Mod.drew _ _)).skip (by rw [bestAt, hno]; rfl)
        have HI := Lib.hid I5
        clear I5 I4 I3 hno m3 KS II
        go_upto_region 11 with fail
        refine wp_region_held_drew (S := fun _ => True) (by kernel_rfl) (trivial) (fun hHeld => ?_)
        refine wpAnyH_take (i := 0) (oi := ⟨some 56, .move (.tmp 13), 4, "pager.go:121", #[], none⟩) (v := ?_) rfl (by kernel_rfl) (by kernel_rfl) (by kernel_rfl) (fun _ _ _ h => h) (Or.inl ⟨by rfl, ?_⟩) (by assumption) ?_
        rotate_left
        · (intro w hSw; (try dsimp only at hSw); go_simp; try with_reducible rfl)
        simp only [Act.put, List.setIfInBounds_toArray, List.set_cons_zero, List.set_cons_succ]
        refine wpAnyH_take (i := 1) (oi := ⟨some 57, .move (.tmp 56), 4, "pager.go:121", #[⟨0, .data⟩], none⟩) (v := ?_) rfl (by kernel_rfl) (by kernel_rfl) (by kernel_rfl) (fun _ _ _ h => h) (Or.inl ⟨by rfl, ?_⟩) (by assumption) ?_
        rotate_left
        · (intro w hSw; (try dsimp only at hSw); go_simp; try with_reducible rfl)
        simp only [Act.put, List.setIfInBounds_toArray, List.set_cons_zero, List.set_cons_succ]
        refine wpAnyH_take (i := 2) (oi := ⟨some 58, .fieldAddr 95 (.tmp 12) 0, 0, "pager.go:121", #[⟨1, .guard⟩], some (1, true)⟩) (v := undef) rfl (by kernel_rfl) (by kernel_rfl) (by kernel_rfl) (fun _ _ _ h => h) (Or.inr ⟨by rfl, rfl⟩) (by assumption) ?_
        simp only [Act.put, List.setIfInBounds_toArray, List.set_cons_zero, List.set_cons_succ]
        refine wpAnyH_take (i := 3) (oi := ⟨some 59, .load 2 (.tmp 58), 2, "pager.go:121", #[⟨2, .data⟩, ⟨1, .guard⟩], some (1, true)⟩) (v := undef) rfl (by kernel_rfl) (by kernel_rfl) (by kernel_rfl) (fun _ _ _ h => h) (Or.inr ⟨by rfl, rfl⟩) (by assumption) ?_
        simp only [Act.put, List.setIfInBounds_toArray, List.set_cons_zero, List.set_cons_succ]
        refine wpAnyH_take (i := 4) (oi := ⟨some 60, .move (.tmp 10), 93, "pager.go:121", #[⟨1, .guard⟩], some (1, true)⟩) (v := undef) rfl (by kernel_rfl) (by kernel_rfl) (by kernel_rfl) (fun _ _ _ h => h) (Or.inr ⟨by rfl, rfl⟩) (by assumption) ?_
        simp only [Act.put, List.setIfInBounds_toArray, List.set_cons_zero, List.set_cons_succ]
        refine wpAnyH_take (i := 5) (oi := ⟨some 61, .nilCheck (.tmp 60), 0, "pager.go:121", #[⟨4, .data⟩, ⟨1, .guard⟩], some (1, true)⟩) (v := undef) rfl (by kernel_rfl) (by kernel_rfl) (by kernel_rfl) (fun _ _ _ h => h) (Or.inr ⟨by rfl, rfl⟩) (by assumption) ?_
        simp only [Act.put, List.setIfInBounds_toArray, List.set_cons_zero, List.set_cons_succ]
        refine wpAnyH_take (i := 6) (oi := ⟨some 62, .fieldAddr 153 (.tmp 61) 4, 0, "pager.go:121", #[⟨5, .data⟩, ⟨1, .guard⟩], some (1, true)⟩) (v := undef) rfl (by kernel_rfl) (by kernel_rfl) (by kernel_rfl) (fun _ _ _ h => h) (Or.inr ⟨by rfl, rfl⟩) (by assumption) ?_
        simp only [Act.put, List.setIfInBounds_toArray, List.set_cons_zero, List.set_cons_succ]
        refine wpAnyH_take (i := 7) (oi := ⟨some 63, .fieldAddr 95 (.tmp 62) 0, 0, "pager.go:121", #[⟨6, .data⟩, ⟨1, .guard⟩], some (1, true)⟩) (v := undef) rfl (by kernel_rfl) (by kernel_rfl) (by kernel_rfl) (fun _ _ _ h => h) (Or.inr ⟨by rfl, rfl⟩) (by assumption) ?_
        simp only [Act.put, List.setIfInBounds_toArray, List.set_cons_zero, List.set_cons_succ]
        refine wpAnyH_take (i := 8) (oi := ⟨some 64, .load 2 (.tmp 63), 2, "pager.go:121", #[⟨7, .data⟩, ⟨1, .guard⟩], some (1, true)⟩) (v := undef) rfl (by kernel_rfl) (by kernel_rfl) (by kernel_rfl) (fun _ _ _ h => h) (Or.inr ⟨by rfl, rfl⟩) (by assumption) ?_
        simp only [Act.put, List.setIfInBounds_toArray, List.set_cons_zero, List.set_cons_succ]
        refine wpAnyH_take (i := 9) (oi := ⟨some 65, .binOp .gtr 2 (.tmp 59) (.tmp 64) 2, 4, "pager.go:121", #[⟨3, .data⟩, ⟨8, .data⟩, ⟨1, .guard⟩], some (1, true)⟩) (v := undef) rfl (by kernel_rfl) (by kernel_rfl) (by kernel_rfl) (fun _ _ _ h => h) (Or.inr ⟨by rfl, rfl⟩) (by assumption) ?_
        simp only [Act.put, List.setIfInBounds_toArray, List.set_cons_zero, List.set_cons_succ]
        refine wpAnyH_take (i := 10) (oi := ⟨some 66, .pick (.tmp 57) (.tmp 65) (.const (.bool false)), 4, "pager.go:121", #[⟨1, .data⟩, ⟨9, .data⟩], none⟩) (v := ?_) rfl (by kernel_rfl) (by kernel_rfl) (by kernel_rfl) (fun _ _ _ h => h) (Or.inl ⟨by rfl, ?_⟩) (by assumption) ?_
        rotate_left
        · (intro w hSw; (try dsimp only at hSw); go_simp; try with_reducible rfl)
        simp only [Act.put, List.setIfInBounds_toArray, List.set_cons_zero, List.set_cons_succ]
        refine wpAnyH_done (by kernel_rfl) ?_ _
        go_wp2_with fail
        go_roundw
        case rel => exact ⟨i + 1, by omega, by go_num, HI.out⟩
        case measure => simp [intOf]; omega
      · obtain ⟨av, cv, rfl, -, -, -⟩ := ho.shape
        unfold rootV
        obtain ⟨vm3, hp3⟩ := I3.pg
        obtain ⟨W4, hW4⟩ : ∃ W4, W4 = w3.alloc (.cells #[.int .i64 (R.gen : Int), .int .i64 R.page, .int .i64 (R.next : Int), .slice av R.mt.length cv] 95) := ⟨_, rfl⟩
        have m4 : Mod (fun _ => False) w3 W4 := by rw [hW4]; exact Mod.alloc _ _ _
        have k4 : W4.heap[w3.heap.size]? = some (.cells #[.int .i64 (R.gen : Int), .int .i64 R.page, .int .i64 (R.next : Int), .slice av R.mt.length cv] 95 (0, 0)) := by rw [hW4]; exact heap_alloc_new _ _
        have hmw := m4.trans' (Mod.drew (fun _ => False) W4)
        have I4 := I3.mod hmw
        have hp4 := hp3.mod hmw (fun _ _ => id)
        have kd := (Mod.drew (fun _ => False) W4).obj k4 id
        have ho4 := (ho.mod hmw (fun _ _ => id)).weaken (B := w.heap.size + 1) (by have := lt_of_block II.out.r; omega)
        obtain ⟨b3, hb3⟩ : ∃ b3, b3 = w3.heap.size := ⟨_, rfl⟩
        rw [← hb3] at k4 kd
        have hg := hp4.tail.1
        obtain ⟨rg, hrg⟩ : ∃ rg, rg = (bestAt (size - 2) frm D i).gen := ⟨_, rfl⟩
        have hg' : W4.cell? ⟨w.heap.size + 1, 4099, none⟩ = some (.int .i64 (rg : Int)) := by rw [hrg]; exact hg
        have hbest : bestAt (size - 2) frm D (i + 1) = if rg < R.gen then R else bestAt (size - 2) frm D i := by
          rw [bestAt, hsome, hrg]; rfl
        have q0 : W4.cell? ⟨b3, 0, none⟩ = some (.int .i64 (R.gen : Int)) := cell_of_row W4 b3 0 _ 95 (0, 0) k4
        have HW4 := Lib.hid hW4
        have HB3 := Lib.hid hb3
        have KD := Lib.hid kd
        have HP4 := Lib.hid hp4
        have HO4 := Lib.hid ho4
        have HI4 := Lib.hid I4
        have HBEST := Lib.hid hbest
        clear hW4 hb3 kd k4 hp4 ho4 I4 hbest hsome hp3 ho I3 m3 m4 hmw KS II hg hrg
        go_upto_region 11 with fail
        rw [← HW4.out, ← HB3.out]
        by_cases hlt2 : rg < R.gen
        · have hd : decide ((rg : Int) < (R.gen : Int)) = true := decide_eq_true (by omega)
          have HBT := Lib.hid (HBEST.out.trans (if_pos hlt2))
          go_region_held3 (fun w' => w'.cell? ⟨b3, 0, none⟩ = some (.int .i64 (R.gen : Int)) ∧ w'.cell? ⟨w.heap.size + 1, 4099, none⟩ = some (.int .i64 (rg : Int))) (refine ⟨?_, ?_⟩ <;> simpa using (by assumption)) (fail)
          have hcb := fun j => cell_of_row W4.drew b3 j _ 95 (0, 0) KD.out
          have d0 := hcb 0
          have d1 := hcb 1
          have d2 := hcb 2
          have d3 := hcb 3
          simp only [List.getElem?_toArray, List.getElem?_cons_zero, List.getElem?_cons_succ] at d0 d1 d2 d3
          obtain ⟨t0, t1, t2, t3, -⟩ := HP4.out.tail
          have g0 := thaw_of (i := 4099) HP4.out.at_
          have g1 := thaw_of (i := 4100) HP4.out.at_
          have g2 := thaw_of (i := 4101) HP4.out.at_
          have g3 := thaw_of (i := 4102) HP4.out.at_
          have hR' := HP4.out.setRoot R HO4.out
          have hmq := mod4q (F := fun k => k = w.heap.size + 1) W4.drew (w.heap.size + 1) rfl (.int .i64 (R.gen : Int)) (.int .i64 R.page) (.int .i64 (R.next : Int)) (.slice av R.mt.length cv)
          have I5 : OpI w p frm size D (i + 1) _ := ⟨⟨_, by rw [HBT.out]; exact hR'⟩, HI4.out.m.trans hmq (fun k hk e => by omega), hmq.obj HI4.out.r (by show ¬ w.heap.size = w.heap.size + 1; omega)⟩
          have HI5 := Lib.hid I5
          clear hcb hR' hmq I5 hd hlt2 q0 hg'
          generalize W4.drew = W5 at *
          go_wp2_with fail
          go_roundw
          case rel => exact ⟨i + 1, by omega, by go_num, HI5.out⟩
          case measure => simp [intOf]; omega
        · have hd : decide ((rg : Int) < (R.gen : Int)) = false := decide_eq_false (by omega)
          have HBT := Lib.hid (HBEST.out.trans (if_neg hlt2))
          go_region_held3 (fun w' => w'.cell? ⟨b3, 0, none⟩ = some (.int .i64 (R.gen : Int)) ∧ w'.cell? ⟨w.heap.size + 1, 4099, none⟩ = some (.int .i64 (rg : Int))) (refine ⟨?_, ?_⟩ <;> simpa using (by assumption)) (fail)
          clear hd hlt2
          go_wp2_with fail
          go_roundw
          case rel => exact ⟨i + 1, by omega, by go_num, HI4.out.skip HBT.out⟩
          case measure => simp [intOf]; omega
    · obtain rfl : i = 2 := by omega
      obtain ⟨vm, hp⟩ := I.pg
      have hRe : bestAt (size - 2) frm D 2 = Ro := HRO.out.symm
      have hPe : (⟨frm, size - 2, zeros4096, bestAt (size - 2) frm D 2, false⟩ : Pgr) = Po := HPO.out.symm
      rw [hPe] at hp
      have hPr : Po.root = Ro := by rw [HPO.out, HRO.out]
      obtain ⟨t0, t1, t2, t3, -⟩ := hp.tail
      have hmt := hp.mt
      rw [hPr] at t0 t1 t2 hmt
      obtain ⟨am, cm, rfl, hlem, hcm, hbm⟩ := hmt.shape
      have ham : am = none → Ro.mt = [] ∧ cm = 0 := fun e => by
        subst e
        rcases hmt.2 with ⟨h1, h2⟩ | ⟨g', cap, cur, h1, -⟩
        · injection h1 with _ h3 h4; exact ⟨List.eq_nil_of_length_eq_zero h3, h4⟩
        · injection h1 with h3; cases h3
      have KO : ∀ w', wr = w' → Calls Try.prog 104 #[rootV Ro (.slice am Ro.mt.length cm)] w' fun e w' => ∃ v, e = .returned (rootV Ro v) ∧ OwnB w' wr.heap.size v Ro.mt ∧ Mod (fun _ => False) wr w' ∧ (∀ k, v.ownBlock = some k → wr.heap.size ≤ k) := fun w' e => by
        subst e
        exact own_any Ro am _ cm rfl (by rw [← hRe]; have := (bestAt_ok (frm := frm) (D := D) (show size - 2 ≤ 4096 by omega) 2).mt; omega) ham hbm wr.heap.size (Nat.le_refl _)
      have HM := Lib.hid I.m
      have HRR := Lib.hid I.r
      have HP := Lib.hid hp
      have HPR := Lib.hid hPr
      replace KO := Lib.hid KO
      clear I I0 hp hRe hPe hPr hmt hbm ham hlt
      unfold rootV at KO
      go_wp2_with fail
      refine (KO.out _ rfl).mono ?_
      rintro e w5 ⟨v, rfl, ho5, m5, hv5⟩
      obtain ⟨av, cv, rfl, -, -, -⟩ := ho5.shape
      have kr := m5.obj HRR.out id
      have hcb := fun j => cell_of_row w5 w.heap.size j _ 95 (0, 0) kr
      have d0 := hcb 0
      have d1 := hcb 1
      have d2 := hcb 2
      have d3 := hcb 3
      simp only [List.getElem?_toArray, List.getElem?_cons_zero, List.getElem?_cons_succ] at d0 d1 d2 d3
      have g0 := thaw_of (i := 0) kr
      have g1 := thaw_of (i := 1) kr
      have g2 := thaw_of (i := 2) kr
      have g3 := thaw_of (i := 3) kr
      have hwl := lt_of_block HRR.out
      have hwq := lt_of_block HP.out.at_
      have hml : ∀ k, (Value.slice am Ro.mt.length cm).ownBlock = some k → w.heap.size + 1 ≤ k ∧ k < wr.heap.size := fun k hk => World.ownsRow.lt HP.out.mt k hk
      have HML := Lib.hid hml
      have KR := Lib.hid kr
      have HO5 := Lib.hid ho5
      have HV5 := Lib.hid hv5
      have M5 := Lib.hid m5
      have HP5 := Lib.hid (HP.out.mod m5 (fun _ _ => id))
      clear hcb kr ho5 hv5 m5 hml t0 t1 t2 t3
      go_wp2
      have k5 := set4 KR.out (.int .i64 (Ro.gen : Int)) (.int .i64 Ro.page) (.int .i64 (Ro.next : Int)) (.slice av Ro.mt.length cv)
      have m6 := mod4 (F := fun k => k = w.heap.size) w5 w.heap.size rfl (.int .i64 (Ro.gen : Int)) (.int .i64 Ro.page) (.int .i64 (Ro.next : Int)) (.slice av Ro.mt.length cv)
      refine bodyPost_ret (results_t95t rfl _ _ rfl (RtCell.of k5) rfl rfl) rfl ⟨w.heap.size + 1, _, .slice am Ro.mt.length cm, rfl, ?_, ?_, ?_, ?_, ?_⟩
      · have h6 := HP5.out.mod m6 (fun k hk e => by
          rcases hk with rfl | hk
          · omega
          · have := (HML.out k hk.symm).1; omega)
        exact ⟨h6.at_, by omega, h6.mt.weaken (by omega), h6.len⟩
      · exact (HO5.out.mod m6 (fun k hk e => by have := HV5.out k hk; omega)).weaken (by omega)
      · exact (HM.out.trans' M5.out).trans m6 (fun k hk e => by omega)
      · intro e
        have := HV5.out _ e
        omega
      · intro k hk e
        have := HV5.out _ e
        have := (HML.out k hk).2
        omega

set_option maxHeartbeats 1000000 in
set_option maxRecDepth 100000 in
theorem popen_bad {w : World} {B p : Nat} {D : Dsk} {F : Nat → Prop} (hd : DiskAt w B p D F) (a b : Int) (hbad : a < 0 ∨ (D.N : Int) < a ∨ b < 3 ∨ (D.N : Int) - a < b) :
    Calls Try.prog 65 #[.pointer (some ⟨p, 0, none⟩), .int .i64 a, .int .i64 b] w fun e w' => e = .returned (.tuple #[.pointer none, zeroRt, .int .i64 1]) ∧ Mod (fun _ => False) w w' := by
  unfold zeroRt
  have KZ : ∀ w', Mod (fun _ => False) w w' → Calls Try.prog 52 #[.pointer (some ⟨p, 0, none⟩)] w' fun e w'' => e = .returned (.int .i64 (D.N : Int)) ∧ w' = w'' := fun w' hm => (hd.mod hm (fun _ _ => id)).size
  have m1 : Mod (fun _ => False) w (w.alloc (.cells #[.int .i64 0, .int .i64 0, .int .i64 0, .slice none 0 0] 95)) := Mod.alloc _ _ _
  have top := hd.wf.top
  have hcs : a < 0 ∨ (¬ a < 0 ∧ (D.N : Int) < a) ∨ (¬ a < 0 ∧ ¬ (D.N : Int) < a ∧ b < 3) ∨ (¬ a < 0 ∧ ¬ (D.N : Int) < a ∧ ¬ b < 3 ∧ (D.N : Int) - a < b) := by omega
  replace KZ := Lib.hid KZ
  have M1 := Lib.hid m1
  clear m1 hbad
  rcases hcs with h1 | ⟨h1, h2⟩ | ⟨h1, h2, h3⟩ | ⟨h1, h2, h3, h4⟩
  · go_enter Try.func65, Try.ntmps65
    go_wp2_with (first
      | (go_at_call 52; refine (KZ.out _ (by first | exact M1.out)).mono ?_; rintro e wb ⟨rfl, rfl⟩))
    refine bodyPost_ret (results_t95t rfl _ _ rfl (RtCell.of (heap_alloc_new _ _)) rfl rfl) rfl ⟨rfl, Mod.alloc _ _ _⟩
  · go_enter Try.func65, Try.ntmps65
    go_wp2_with (first
      | (go_at_call 52; refine (KZ.out _ (by first | exact M1.out)).mono ?_; rintro e wb ⟨rfl, rfl⟩))
    refine bodyPost_ret (results_t95t rfl _ _ rfl (RtCell.of (heap_alloc_new _ _)) rfl rfl) rfl ⟨rfl, Mod.alloc _ _ _⟩
  · go_enter Try.func65, Try.ntmps65
    go_wp2_with (first
      | (go_at_call 52; refine (KZ.out _ (by first | exact M1.out)).mono ?_; rintro e wb ⟨rfl, rfl⟩))
    refine bodyPost_ret (results_t95t rfl _ _ rfl (RtCell.of (heap_alloc_new _ _)) rfl rfl) rfl ⟨rfl, Mod.alloc _ _ _⟩
  · have w1 : IntKind.i64.wrap ((D.N : Int) - a) = (D.N : Int) - a := IntWalk.i64_in _ (by omega)
    go_enter Try.func65, Try.ntmps65
    go_wp2_with (first
      | (go_at_call 52; refine (KZ.out _ (by first | exact M1.out)).mono ?_; rintro e wb ⟨rfl, rfl⟩))
    refine bodyPost_ret (results_t95t rfl _ _ rfl (RtCell.of (heap_alloc_new _ _)) rfl rfl) rfl ⟨rfl, Mod.alloc _ _ _⟩
end Go.Proofs.Ytdinnkacilgmmaa
namespace Go.Proofs.Ytdinnkacilgmmaa
open Go.RowKit

/-- bytes that are seen through a slice value, in new memory -/
def ViewAt (w : World) (H : Nat) (v : Value) (l : List UInt8) : Prop :=
  ∃ a cap, v = .slice a l.length cap ∧ BytesAt w a l ∧ (a = none → l = [] ∧ cap = 0) ∧ l.length ≤ cap ∧ ∀ x, a = some x → H ≤ x.block ∧ x.block < w.heap.size
def Pgr.read (P : Pgr) (D : Dsk) (n : Int) : List UInt8 × Int :=
  if P.there n then (if sound (sector D.now (P.frm + 2 + n.toNat)) then ((sector D.now (P.frm + 2 + n.toNat)).drop 4, 0) else ([], 12)) else ([], 1)

set_option maxHeartbeats 1000000 in
set_option maxRecDepth 100000 in
theorem pread_any {w : World} {B B2 q p : Nat} {vm : Value} {P : Pgr} {D : Dsk} {F : Nat → Prop} (hp : PgV w B q p vm P) (hd : DiskAt w B2 p D F) (hfit : P.frm + 2 + P.pages ≤ D.N) (n : Int) :
    Calls Try.prog 67 #[.pointer (some ⟨q, 0, none⟩), .int .i64 n] w fun e w' => ∃ v, e = .returned (.tuple #[v, .int .i64 (P.read D n).2]) ∧ ViewAt w' w.heap.size v (P.read D n).1 ∧ Mod (fun _ => False) w w' := by
  obtain ⟨o, ho⟩ : ∃ o, o = P.read D n := ⟨_, rfl⟩
  rw [← ho]
  have top := hd.wf.top
  have KT := there_any hp n
  have HO := Lib.hid ho
  clear ho
  by_cases ht : P.there n = true
  · have ht' : 0 ≤ n ∧ n < (P.pages : Int) := of_decide_eq_true ht
    obtain ⟨m, rfl⟩ : ∃ m : Nat, n = (m : Int) := ⟨n.toNat, by omega⟩
    have hn : P.frm + 2 + m < D.N := by omega
    have hwr : D.wrong ((P.frm : Int) + 2 + (m : Int)) = 0 := by unfold Dsk.wrong; rw [if_neg (by omega)]
    have KR : ∀ w', Mod (fun _ => False) w w' → Calls Try.prog 37 #[.pointer (some ⟨p, 0, none⟩), .int .i64 ((P.frm : Int) + 2 + (m : Int))] w' fun e w'' => ∃ v, e = .returned (.tuple #[v, .int .i64 0]) ∧ OwnB w'' w.heap.size v (sector D.now (P.frm + 2 + m)) ∧ Mod (fun _ => False) w w'' := fun w' hm =>
      ((hd.mod hm (fun _ _ => id)).read ((P.frm : Int) + 2 + (m : Int)) w.heap.size hm.size).mono fun e w'' ⟨v, he, ho, hm', _⟩ => ⟨v, by rw [he, hwr], by rw [hwr, if_pos rfl, show ((P.frm : Int) + 2 + (m : Int)).toNat = P.frm + 2 + m by omega] at ho; exact ho, hm.trans' hm'⟩
    have hsl : (sector D.now (P.frm + 2 + m)).length = 256 := sector_length _ _ _ (by rw [hd.wf.now]; exact Nat.le_of_eq hd.wf.len.symm) hn
    have ho2 := HO.out
    unfold Pgr.read at ho2
    rw [if_pos ht, Int.toNat_natCast] at ho2
    rw [ht] at KT
    have c0 := hp.head.1
    have c1 := hp.head.2.1
    replace KR := Lib.hid KR
    replace KT := Lib.hid KT
    have HSL := Lib.hid hsl
    have HO2 := Lib.hid ho2
    have w1 : IntKind.i64.wrap ((P.frm : Int) + 2) = (P.frm : Int) + 2 := IntWalk.i64_in _ (by omega)
    have w2 : IntKind.i64.wrap ((P.frm : Int) + 2 + (m : Int)) = (P.frm : Int) + 2 + (m : Int) := IntWalk.i64_in _ (by omega)
    clear hwr hsl hd hp ho2 HO ht ht'
    generalize sector D.now (P.frm + 2 + m) = s at *
    go_enter Try.func67, Try.ntmps67
    go_wp2_with (first
      | (go_at_call 107; refine KT.out.mono ?_; rintro e wb ⟨rfl, rfl⟩))
    have md : Mod (fun _ => False) w w.drew := Mod.drew _ _
    go_region_held3 (fun w' => w'.cell? ⟨q, 0, none⟩ = some (.pointer (some ⟨p, 0, none⟩)) ∧ w'.cell? ⟨q, 1, none⟩ = some (.int .i64 (P.frm : Int))) (first | (refine ⟨?_, ?_⟩ <;> simpa using (by assumption)) | exact ⟨hmb.cell' c0 id, hmb.cell' c1 id⟩)
      ((go_at_call 37; refine (KR.out _ (by assumption)).mono ?_; rintro e wb ⟨v, rfl, hob, hmb⟩))
    obtain ⟨g, cap, cur, ev, -, hgg, hle, -⟩ := hob.row (by intro e; have := HSL.out; rw [e] at this; cases this)
    rw [HSL.out] at ev hle
    subst ev
    have KO := Lib.hid (opened_any hob HSL.out hle)
    have HM := Lib.hid hmb
    have HOB := Lib.hid hob
    clear hob hmb hgg KR KT c0 c1
    go_wp2_with fail
    refine KO.out.mono ?_
    rintro e wc ⟨rfl, mc⟩
    have hbs := ((OwnB.bytes (HOB.out.mod mc (fun _ _ => id))).2).sub 4 252
    have e2 : (s.drop 4).take 252 = s.drop 4 := List.take_of_length_le (by rw [List.length_drop, HSL.out]; decide)
    rw [e2, Nat.zero_add] at hbs
    have hgl := World.ownsRow.lt HOB.out g rfl
    have hms := mc.size
    have MM := Lib.hid (HM.out.trans' mc)
    have HBS := Lib.hid hbs
    cases hs : sound s
    · have hoe : o = ([], 12) := by rw [HO2.out, hs]; rfl
      subst hoe
      clear HO2 hs hbs e2 mc
      go_wp2
      go_ret2
      exact ⟨_, rfl, ⟨none, 0, rfl, BytesAt.nil _ _, fun _ => ⟨rfl, rfl⟩, Nat.le_refl _, fun x hx => by cases hx⟩, MM.out⟩
    · have hoe : o = (s.drop 4, 0) := by rw [HO2.out, hs]; rfl
      subst hoe
      have hl : (s.drop 4).length = 252 := by rw [List.length_drop, HSL.out]
      have HL := Lib.hid hl
      clear HO2 hs hbs e2 mc hl
      go_wp2
      go_ret2
      refine ⟨_, rfl, ⟨some ⟨g, 4, none⟩, cap - 4, by rw [HL.out]; rfl, HBS.out, (fun e => by cases e), (by rw [HL.out]; omega), fun x hx => ?_⟩, MM.out⟩
      cases hx
      exact ⟨hgl.1, Nat.lt_of_lt_of_le hgl.2 hms⟩
  · have htf : P.there n = false := by simpa using ht
    rw [htf] at KT
    have hoe : o = ([], 1) := by rw [HO.out]; unfold Pgr.read; rw [htf]; rfl
    subst hoe
    replace KT := Lib.hid KT
    clear HO ht htf hp hd
    go_enter Try.func67, Try.ntmps67
    go_wp2_with (first
      | (go_at_call 107; refine KT.out.mono ?_; rintro e wb ⟨rfl, rfl⟩))
    go_ret2
    exact ⟨_, rfl, ⟨none, 0, rfl, BytesAt.nil _ _, fun _ => ⟨rfl, rfl⟩, Nat.le_refl _, fun x hx => by cases hx⟩, Mod.refl _ _⟩

def Pgr.whyRelease (P : Pgr) (n : Int) : Int := if P.there n = true ∧ P.is_.getD n.toNat 0 = 2 then 0 else 1
def Pgr.release (P : Pgr) (n : Int) : Pgr := if P.there n = true ∧ P.is_.getD n.toNat 0 = 2 then { P with is_ := P.is_.set n.toNat 0 } else P
set_option maxHeartbeats 1000000 in
set_option maxRecDepth 100000 in
theorem prelease_any {w : World} {B q p : Nat} {vm : Value} {P : Pgr} (hp : PgV w B q p vm P) (hpg : P.pages ≤ 4096) (n : Int) :
    Calls Try.prog 69 #[.pointer (some ⟨q, 0, none⟩), .int .i64 n] w fun e w' => e = .returned (.int .i64 (P.whyRelease n)) ∧ PgV w' B q p vm (P.release n) ∧ Mod (fun k => k = q) w w' := by
  obtain ⟨o, ho⟩ : ∃ o, o = P.whyRelease n := ⟨_, rfl⟩
  obtain ⟨P', hP'⟩ : ∃ P', P' = P.release n := ⟨_, rfl⟩
  rw [← ho, ← hP']
  unfold Pgr.whyRelease at ho
  unfold Pgr.release at hP'
  have KT := there_any hp n
  by_cases ht : P.there n = true
  · have ht' : 0 ≤ n ∧ n < (P.pages : Int) := of_decide_eq_true ht
    obtain ⟨m, rfl⟩ : ∃ m : Nat, n = (m : Int) := ⟨n.toNat, by omega⟩
    have hm : m < 4096 := by omega
    have hc := hp.is_cell m hm
    have hgm : P.is_.getD m 0 = P.is_[m]'(by have := hp.len; omega) := by simp [List.getD_eq_getElem?_getD, List.getElem?_eq_getElem (show m < P.is_.length by have := hp.len; omega)]
    rw [← hgm] at hc
    rw [Int.toNat_natCast] at ho hP'
    have hset := hp.setIs m hm 0
    have hfz := thaw_of (i := 3 + m) hp.at_
    rw [ht] at KT
    have HO := Lib.hid ho
    have HP' := Lib.hid hP'
    have HSET := Lib.hid hset
    have HP := Lib.hid hp
    have HT := Lib.hid ht
    replace KT := Lib.hid KT
    have hmi : (0 : Int) ≤ (m : Int) := by omega
    have hmj : (m : Int) < 4096 := by omega
    clear ho hP' hset hp hgm ht ht'
    generalize P.is_.getD m 0 = c at *
    by_cases hc2 : c = 2
    · subst hc2
      have ho := HO.out
      have hP' := HP'.out
      rw [if_pos ⟨HT.out, rfl⟩] at ho hP'
      subst ho hP'
      clear HO HP'
      go_enter Try.func69, Try.ntmps69
      go_wp2_with (first
        | (go_at_call 107; refine KT.out.mono ?_; rintro e wb ⟨rfl, rfl⟩))
      go_ret
      exact ⟨rfl, HSET.out, Mod.setCell _ _ _ rfl⟩
    · have ho := HO.out
      have hP' := HP'.out
      rw [if_neg (fun h => hc2 h.2)] at ho hP'
      subst ho hP'
      have hcn : ((c.toNat : Int) != 2) = true := by
        rw [bne_iff_ne]
        intro e
        exact hc2 (UInt8.toNat_inj.1 (by show c.toNat = 2; omega))
      unfold byteV at hc
      have HC2 := Lib.hid hc2
      clear HO HP' HSET hc2
      go_enter Try.func69, Try.ntmps69
      go_wp2_with (first
        | (go_at_call 107; refine KT.out.mono ?_; rintro e wb ⟨rfl, rfl⟩))
      go_ret
      exact ⟨rfl, HP.out, Mod.refl _ _⟩
  · have htf : P.there n = false := by simpa using ht
    rw [htf] at KT ho hP'
    rw [if_neg (fun h => by cases h.1)] at ho hP'
    subst ho hP'
    have HP := Lib.hid hp
    replace KT := Lib.hid KT
    clear hp ht htf
    go_enter Try.func69, Try.ntmps69
    go_wp2_with (first
      | (go_at_call 107; refine KT.out.mono ?_; rintro e wb ⟨rfl, rfl⟩))
    go_ret
    exact ⟨rfl, HP.out, Mod.refl _ _⟩

set_option maxRecDepth 100000 in
theorem pdead_any {w : World} {B q p : Nat} {vm : Value} {P : Pgr} (hp : PgV w B q p vm P) : Calls Try.prog 72 #[.pointer (some ⟨q, 0, none⟩)] w fun e w' => e = .returned (.bool P.dead) ∧ w = w' := by
  have c5 := hp.tail.2.2.2.2
  go_enter Try.func72, Try.ntmps72
  go_wp2
  go_ret
  exact ⟨rfl, rfl⟩

set_option maxHeartbeats 1000000 in
set_option maxRecDepth 100000 in
theorem proot_any {w : World} {B q p : Nat} {vm : Value} {P : Pgr} (hp : PgV w B q p vm P) (hm : P.root.mt.length ≤ 100) : Calls Try.prog 71 #[.pointer (some ⟨q, 0, none⟩)] w fun e w' =>
    ∃ v, e = .returned (rootV P.root v) ∧ OwnB w' w.heap.size v P.root.mt ∧ Mod (fun _ => False) w w' := by
  have ma : Mod (fun _ => False) w (w.alloc (.cells #[.int .i64 0, .int .i64 0, .int .i64 0, .slice none 0 0] 95)) := Mod.alloc _ _ _
  have kb := heap_alloc_new w (.cells #[.int .i64 0, .int .i64 0, .int .i64 0, .slice none 0 0] 95)
  have hp1 := hp.mod ma (fun _ _ => id)
  obtain ⟨t0, t1, t2, t3, -⟩ := hp1.tail
  have hmt := hp.mt
  clear hp1
  generalize P.root = Ro at *
  obtain ⟨am, cm, rfl, hlem, hcm, hbm⟩ := hmt.shape
  have ham : am = none → Ro.mt = [] ∧ cm = 0 := fun e => by
    subst e
    rcases hmt.2 with ⟨h1, h2⟩ | ⟨g', cap, cur, h1, -⟩
    · injection h1 with _ h3 h4; exact ⟨List.eq_nil_of_length_eq_zero h3, h4⟩
    · injection h1 with h3; cases h3
  have KO := own_any (w := w.alloc (.cells #[.int .i64 0, .int .i64 0, .int .i64 0, .slice none 0 0] 95)) Ro am _ cm rfl (by omega) ham (hbm.mod ma (fun _ _ _ => id)) _ (Nat.le_refl _)
  replace KO := Lib.hid KO
  have MA := Lib.hid ma
  have KB := Lib.hid kb
  clear ma kb hmt hbm ham hp
  unfold rootV at KO
  go_enter Try.func71, Try.ntmps71
  go_wp2_with fail
  refine KO.out.mono ?_
  rintro e w5 ⟨v, rfl, ho5, m5, hv5⟩
  obtain ⟨av, cv, rfl, -, -, -⟩ := ho5.shape
  have kr := m5.obj KB.out id
  have hcb := fun j => cell_of_row w5 w.heap.size j _ 95 (0, 0) kr
  have d0 := hcb 0
  have d1 := hcb 1
  have d2 := hcb 2
  have d3 := hcb 3
  simp only [List.getElem?_toArray, List.getElem?_cons_zero, List.getElem?_cons_succ] at d0 d1 d2 d3
  have g0 := thaw_of (i := 0) kr
  have g1 := thaw_of (i := 1) kr
  have g2 := thaw_of (i := 2) kr
  have g3 := thaw_of (i := 3) kr
  have hsz := MA.out.size
  have hlb := lt_of_block KB.out
  have KR := Lib.hid kr
  have HO5 := Lib.hid ho5
  have HV5 := Lib.hid hv5
  have M5 := Lib.hid (MA.out.trans' m5)
  clear hcb kr ho5 hv5 m5 t0 t1 t2 t3
  go_wp2
  have k5 := set4 KR.out (.int .i64 (Ro.gen : Int)) (.int .i64 Ro.page) (.int .i64 (Ro.next : Int)) (.slice av Ro.mt.length cv)
  have m6 := mod4 (F := fun k => k = w.heap.size) w5 w.heap.size rfl (.int .i64 (Ro.gen : Int)) (.int .i64 Ro.page) (.int .i64 (Ro.next : Int)) (.slice av Ro.mt.length cv)
  exact bodyPost_ret (results_95 rfl _ _ rfl (RtCell.of k5)) rfl ⟨_, rfl, (HO5.out.mod m6 (fun k hk e => by have := HV5.out k hk; omega)).weaken (by omega), M5.out.trans m6 (fun k hk e => by omega)⟩
end Go.Proofs.Ytdinnkacilgmmaa
namespace Go.Proofs.Ytdinnkacilgmmaa
open Go.RowKit

theorem zero151 : Try.zeroCells151 = (zeros4096.map byteV).toArray := by kernel_rfl
theorem run_store151 {w : World} {B q p : Nat} {vm : Value} {P : Pgr} (h : PgV w B q p vm P) :
    ∃ w', (storeCells ⟨q, 3, none⟩ Try.zeroCells151.toList).run Try.prog w = .ok () w' ∧ PgV w' B q p vm { P with is_ := zeros4096 } ∧ Mod (fun k => k = q) w w' := by
  rw [zero151]
  have hr := run_storeCells_at (P := Try.prog) q 3 153 (zeros4096.map byteV) 0 _ w h.at_ (by rw [List.length_map, zeros4096_length, List.size_toArray, pgCells_length h.len]; decide) (bytes_oneCell _)
  refine ⟨_, hr, ⟨?_, h.hq, h.mt.mod (Mod.setRow (F := fun k => k = q) _ _ _ rfl) (fun k hk e => h.ne (by rw [hk, e])), zeros4096_length⟩, Mod.setRow _ _ _ rfl⟩
  rw [setRow_heap w q _ _ 153 (0, 0) h.at_]
  refine congrArg (fun C => some (Obj.cells C 153 (0, 0))) (congrArg List.toArray ?_)
  rw [List.length_map, zeros4096_length]
  unfold pgCells
  rw [show (3 + 0 + 4096 : Nat) = 4096 + 1 + 1 + 1 by rfl, show (3 + 0 : Nat) = 0 + 1 + 1 + 1 by rfl]
  simp only [List.take_succ_cons, List.take_zero, List.drop_succ_cons]
  rw [List.drop_left' (by rw [List.length_map]; exact h.len)]
  rfl
def setAll (l : List Int) (s : List UInt8) : List UInt8 := l.foldl (fun s n => s.set n.toNat 1) s
theorem setAll_snoc (l : List Int) (n : Int) (s : List UInt8) : setAll (l ++ [n]) s = (setAll l s).set n.toNat 1 := by simp [setAll]
theorem setAll_length (l : List Int) (s : List UInt8) : (setAll l s).length = s.length := by
  induction l generalizing s with
  | nil => rfl
  | cons n l ih => show (setAll l _).length = _; rw [ih, List.length_set]
set_option maxHeartbeats 1000000 in
set_option maxRecDepth 100000 in
theorem pset_any {w : World} {B q p : Nat} {vm : Value} {P : Pgr} (hp : PgV w B q p vm P) (a : Option Addr) (l : List Int) (n cap : Nat) (hn : l.length = n) (hll : l.length ≤ 140737488355328) (hl : IntsAt w a l) (hla : ∀ x, a = some x → l ≠ [] → ¬ x.block = q) (hall : ∀ x ∈ l, 0 ≤ x ∧ x < 4096) :
    Calls Try.prog 112 #[.pointer (some ⟨q, 0, none⟩), .slice a n cap] w fun e w' => e = .returned (.tuple #[]) ∧ PgV w' B q p vm { P with is_ := setAll l zeros4096 } ∧ Mod (fun k => k = q) w w' := by
  subst hn
  obtain ⟨w1, hrun, hp1, hm1⟩ := run_store151 hp
  have hl1 := hl.mod hm1 hla
  have HL1 := Lib.hid hl1
  have HALL := Lib.hid hall
  have HLA := Lib.hid hla
  have HP1 := Lib.hid hp1
  have HM1 := Lib.hid hm1
  clear hl1 hall hla hp1 hm1 hl hp
  go_enter Try.func112, Try.ntmps112
  go_wp2_with fail
  clear hrun
  go_loopw [12] (fun v12 wr => ∃ i : Nat, i ≤ l.length ∧ v12 = .int .i64 (i : Int) ∧ PgV wr B q p vm { P with is_ := setAll (l.take i) zeros4096 } ∧ Mod (fun k => k = q) w wr ∧ IntsAt wr a l) (fun v12 _ => l.length - (intOf v12).toNat)
  case atStart => exact ⟨0, Nat.zero_le _, rfl, HP1.out, HM1.out, HL1.out⟩
  case round =>
    obtain ⟨i, hi, rfl, hp, hm, hl⟩ := hrel
    by_cases hlt : i < l.length
    · have hlt' : (i : Int) < (l.length : Int) := by omega
      have hne : l ≠ [] := by intro e; rw [e] at hlt; exact absurd hlt (Nat.not_lt_zero _)
      obtain ⟨b, off, rfl, hc⟩ := hl hne
      have hci := hc i hlt
      obtain ⟨x, hx⟩ : ∃ x, x = l[i] := ⟨_, rfl⟩
      rw [← hx] at hci
      obtain ⟨h0, h1⟩ := HALL.out x (hx ▸ List.getElem_mem _)
      obtain ⟨m, rfl⟩ : ∃ m : Nat, x = (m : Int) := ⟨x.toNat, by omega⟩
      have hm4 : m < 4096 := by omega
      have hcm := hp.is_cell m hm4
      have hfz := thaw_of (i := 3 + m) hp.at_
      have hset := hp.setIs m hm4 1
      have hmq : Mod (fun k => k = q) wr (wr.setCell ⟨q, 3 + m, none⟩ (byteV 1)) := Mod.setCell _ _ _ rfl
      have hl2 := hl.mod hmq HLA.out
      have hst : setAll (l.take (i + 1)) zeros4096 = (setAll (l.take i) zeros4096).set m 1 := by
        rw [List.take_succ_eq_append_getElem hlt, setAll_snoc, ← hx]; rfl
      have hres : PgV (wr.setCell ⟨q, 3 + m, none⟩ (byteV 1)) B q p vm { P with is_ := setAll (l.take (i + 1)) zeros4096 } ∧ Mod (fun k => k = q) w (wr.setCell ⟨q, 3 + m, none⟩ (byteV 1)) ∧ IntsAt (wr.setCell ⟨q, 3 + m, none⟩ (byteV 1)) (some ⟨b, off, none⟩) l := ⟨by rw [hst]; exact hset, hm.trans' hmq, hl2⟩
      generalize (setAll (l.take i) zeros4096)[m]'_ = cx at hcm
      have HRES := Lib.hid hres
      have hmi : (0 : Int) ≤ (m : Int) := by omega
      clear hres hst hl2 hmq hset hp hm hl hc hx hne
      go_wp2_with fail
      go_roundw
      case rel => exact ⟨i + 1, by omega, by go_num, HRES.out⟩
      case measure => simp [intOf]; omega
    · obtain rfl : i = l.length := by omega
      rw [List.take_length] at hp
      have HP := Lib.hid hp
      have HM := Lib.hid hm
      clear hp hm hl
      go_wp2
      go_end0
      exact ⟨rfl, HP.out, HM.out⟩
end Go.Proofs.Ytdinnkacilgmmaa
