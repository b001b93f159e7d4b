/- CrcAdds: the walk. -/
import Derived.Test.YtdinnkacilgmmaaCrc
import Derived.Test.YtdinnkacilgmmaaLift
import Derived.StillTailTactics
import Derived.Deep.QuietTactic
import Derived.BigQuiet
import Derived.Deep.DeepCutAuto
import Derived.Deep.Light
import Derived.Deep.RegionHeld3
namespace Go.Proofs.Ytdinnkacilgmmaa
open Go.RowKit

/-- three lists added bit by bit -/
def add3 (a b c : List UInt8) (n : Nat) : List UInt8 := (List.range n).map fun i => a.getD i 0 ^^^ b.getD i 0 ^^^ c.getD i 0

theorem add3_zip (a b c : List UInt8) (n : Nat) (ha : n ≤ a.length) (hb : n ≤ b.length) (hc : n ≤ c.length) :
    add3 a b c n = List.zipWith (· ^^^ ·) (List.zipWith (· ^^^ ·) (a.take n) (b.take n)) (c.take n) := by
  apply List.ext_getElem?
  intro i
  unfold add3
  by_cases h : i < n
  · simp [List.getElem?_zipWith, h, show i < a.length by omega, show i < b.length by omega, show i < c.length by omega]
  · have h1 : (List.map (fun i => a.getD i 0 ^^^ b.getD i 0 ^^^ c.getD i 0) (List.range n))[i]? = none := by simp; omega
    rw [h1]; symm
    simp; omega

theorem crc_add3 (a b c : List UInt8) (n : Nat) (ha : n ≤ a.length) (hb : n ≤ b.length) (hc : n ≤ c.length) :
    crc (add3 a b c n) = crc (a.take n) ^^^ crc (b.take n) ^^^ crc (c.take n) := by
  rw [add3_zip a b c n ha hb hc]
  unfold crc more
  have e : ~~~ 0#32 = (~~~ 0#32 ^^^ ~~~ 0#32) ^^^ ~~~ 0#32 := by decide
  have h1 := reg_xor_list (~~~ 0#32 ^^^ ~~~ 0#32) (~~~ 0#32) (List.zipWith (· ^^^ ·) (a.take n) (b.take n)) (c.take n) (by simp; omega)
  have h2 := reg_xor_list (~~~ 0#32) (~~~ 0#32) (a.take n) (b.take n) (by simp; omega)
  rw [h2, ← e] at h1
  rw [h1]
  generalize reg _ (a.take n) = x
  generalize reg _ (b.take n) = y
  generalize reg _ (c.take n) = z
  apply BitVec.eq_of_getLsbD_eq
  intro i hi
  simp only [BitVec.getLsbD_xor, BitVec.getLsbD_not, hi, decide_true, Bool.true_and]
  cases x.getLsbD i <;> cases y.getLsbD i <;> cases z.getLsbD i <;> rfl

theorem BytesAt.take {w : World} {a : Option Addr} {l : List UInt8} (h : BytesAt w a l) (k : Nat) : BytesAt w a (l.take k) := by
  intro hne
  have hl : l ≠ [] := by intro e; subst e; simp at hne
  obtain ⟨b, off, rfl, hc⟩ := h hl
  refine ⟨b, off, rfl, fun j hj => ?_⟩
  have hj' : j < l.length := by simp at hj; omega
  rw [hc j hj']
  simp

theorem BytesAt.at {w : World} {a : Option Addr} {l : List UInt8} (h : BytesAt w a l) (hl : 0 < l.length) :
    ∃ b off, a = some ⟨b, off, none⟩ ∧ ∀ j, j < l.length → w.cell? ⟨b, off + j, none⟩ = some (byteV (l.getD j 0)) := by
  obtain ⟨b, off, rfl, hc⟩ := h (List.length_pos_iff.1 hl)
  refine ⟨b, off, rfl, fun j hj => ?_⟩
  rw [hc j hj]
  simp [hj]

theorem xor8 (x y : UInt8) : bits .xor .u8 (x.toNat : Int) (y.toNat : Int) = ((x ^^^ y).toNat : Int) := by
  rw [u8_xor_nat _ _ x.toNat_lt y.toNat_lt, UInt8.toNat_xor]

theorem add3_length (a b c : List UInt8) (n : Nat) : (add3 a b c n).length = n := by simp [add3]

theorem add3_succ (a b c : List UInt8) (n : Nat) : add3 a b c (n + 1) = add3 a b c n ++ [a.getD n 0 ^^^ b.getD n 0 ^^^ c.getD n 0] := by
  unfold add3; rw [List.range_succ, List.map_append]; rfl

set_option maxHeartbeats 2000000 in
set_option maxRecDepth 100000 in
theorem adds_walk (a0 a1 a2 : Option Addr) (l0 l1 l2 : List UInt8) (c0 c1 c2 : Nat) (w : World) (m0 : l0.length ≤ 140737488351232) (m1 : l1.length ≤ 140737488351232) (m2 : l2.length ≤ 140737488351232)
    (h0 : BytesAt w a0 l0) (h1 : BytesAt w a1 l1) (h2 : BytesAt w a2 l2) (k0 : l0.length ≤ c0) (k1 : l1.length ≤ c1) (k2 : l2.length ≤ c2) :
    Calls Try.prog 4 #[.slice a0 l0.length c0, .slice a1 l1.length c1, .slice a2 l2.length c2] w fun e w' => e = .returned (.bool true) ∧ Below w.heap.size w w' := by
  go_enter Try.func4, Try.ntmps4
  go_upto_if 15 with fail
  go_cut [7] (fun s7 wx => ∃ n : Nat, s7 = .int .i64 n ∧ n ≤ l0.length ∧ n ≤ l1.length ∧ w = wx)
  case first =>
    go_wp2
    all_goals (go_meet; refine ⟨_, rfl, ?_, ?_, rfl⟩ <;> omega)
  case rest =>
  obtain ⟨n', rfl, n0', n1', rfl⟩ := hcut
  go_upto_if 21 with fail
  go_cut [7] (fun s7 wx => ∃ n : Nat, s7 = .int .i64 n ∧ n ≤ l0.length ∧ n ≤ l1.length ∧ n ≤ l2.length ∧ w = wx)
  case first =>
    go_wp2
    all_goals (go_meet; refine ⟨_, rfl, ?_, ?_, ?_, rfl⟩ <;> omega)
  case rest =>
    obtain ⟨n, rfl, n0, n1, n2, rfl⟩ := hcut
    go_wp2
    go_loopw [8, 9] (fun v i wr => ∃ k : Nat, k ≤ n ∧ i = .int .i64 k ∧ OwnB wr w.heap.size v (add3 l0 l1 l2 k) ∧ Below w.heap.size w wr) (fun _ i _ => n - (intOf i).toNat)
    case atStart => exact ⟨0, Nat.zero_le _, rfl, OwnB.nil _ _, Below.refl _ _⟩
    case round =>
      obtain ⟨k, hk, rfl, hown, hbel⟩ := hrel
      by_cases hlt : k < n
      · obtain ⟨b0, f0, rfl, e0⟩ := h0.at (by omega)
        obtain ⟨b1, f1, rfl, e1⟩ := h1.at (by omega)
        obtain ⟨b2, f2, rfl, e2⟩ := h2.at (by omega)
        have g0 : wr.cell? ⟨b0, f0 + k, none⟩ = some (byteV (l0.getD k 0)) := (hbel.cell (p := ⟨b0, f0 + k, none⟩) (by exact h0.lt (by intro e; rw [e] at n0; simp at n0; omega))).trans (e0 k (by omega))
        have g1 : wr.cell? ⟨b1, f1 + k, none⟩ = some (byteV (l1.getD k 0)) := (hbel.cell (p := ⟨b1, f1 + k, none⟩) (by exact h1.lt (by intro e; rw [e] at n1; simp at n1; omega))).trans (e1 k (by omega))
        have g2 : wr.cell? ⟨b2, f2 + k, none⟩ = some (byteV (l2.getD k 0)) := (hbel.cell (p := ⟨b2, f2 + k, none⟩) (by exact h2.lt (by intro e; rw [e] at n2; simp at n2; omega))).trans (e2 k (by omega))
        clear e0 e1 e2
        generalize hx0 : l0.getD k 0 = x0 at g0
        generalize hx1 : l1.getD k 0 = x1 at g1
        generalize hx2 : l2.getD k 0 = x2 at g2
        have HX0 := Lib.hid hx0
        have HX1 := Lib.hid hx1
        have HX2 := Lib.hid hx2
        clear hx0 hx1 hx2
        have hlk : (k : Int) < (n : Int) := by omega
        have hl0 : (k : Int) < (l0.length : Int) := by omega
        have hl1 : (k : Int) < (l1.length : Int) := by omega
        have hl2 : (k : Int) < (l2.length : Int) := by omega
        go_wp2
        have q0 := h0.lt (by intro e; rw [e] at n0; simp at n0; omega)
        have q1 := h1.lt (by intro e; rw [e] at n1; simp at n1; omega)
        have q2 := h2.lt (by intro e; rw [e] at n2; simp at n2; omega)
        have r0 : w.cell? ⟨b0, f0 + k, none⟩ = some (byteV x0) := (hbel.cell (p := ⟨b0, f0 + k, none⟩) (by exact q0)).symm.trans g0
        have r1 : w.cell? ⟨b1, f1 + k, none⟩ = some (byteV x1) := (hbel.cell (p := ⟨b1, f1 + k, none⟩) (by exact q1)).symm.trans g1
        have r2 : w.cell? ⟨b2, f2 + k, none⟩ = some (byteV x2) := (hbel.cell (p := ⟨b2, f2 + k, none⟩) (by exact q2)).symm.trans g2
        have HS := Lib.hid (show ∀ w', Below w.heap.size w w' → w'.cell? ⟨b0, f0 + k, none⟩ = some (byteV x0) ∧ w'.cell? ⟨b1, f1 + k, none⟩ = some (byteV x1) ∧ w'.cell? ⟨b2, f2 + k, none⟩ = some (byteV x2) from
          fun w' hb => ⟨(hb.cell (p := ⟨b0, f0 + k, none⟩) (by exact q0)).trans r0, (hb.cell (p := ⟨b1, f1 + k, none⟩) (by exact q1)).trans r1, (hb.cell (p := ⟨b2, f2 + k, none⟩) (by exact q2)).trans r2⟩)
        clear r0 r1 r2 q0 q1 q2
        have hsize := hbel.size
        have hlen := add3_length l0 l1 l2 k
        have HLEN := Lib.hid hlen
        have hblk : ∀ j, u8.ownBlock = some j → w.heap.size ≤ j := fun j hj => (World.ownsRow.lt hown j hj).1
        have HBLK := Lib.hid hblk
        clear hlen hblk
        go_region_held3 (fun w' => w'.cell? ⟨b0, f0 + k, none⟩ = some (byteV x0) ∧ w'.cell? ⟨b1, f1 + k, none⟩ = some (byteV x1) ∧ w'.cell? ⟨b2, f2 + k, none⟩ = some (byteV x2))
          (first | exact HS.out _ (hbel.drew) | exact HS.out _ ((hbel.drew).alloc (by simpa using hsize) _) | exact HS.out _ hbel1)
          (first
            | (refine appB_step rfl _ _ rfl w.heap.size u8 (add3 l0 l1 l2 k) rfl (by exact hown.mod (Mod.trans' (Mod.drew (fun _ => False) _) (Mod.alloc _ _ _)) (fun _ _ => id)) _ _ _ [x0 ^^^ x1 ^^^ x2] rfl rfl (fun e => by cases e) (by exact bytesAt_new' (by simp) (by rw [xor8, xor8]; rfl)) (by rw [HLEN.out]; simp; omega) (by simp; omega) ?_; intro v1 w1 hown1 hmod1 _; have hbel1 : Below w.heap.size w w1 := ((hbel.drew).alloc (by simpa using hsize) _).trans (hmod1.below (fun j hj => HBLK.out j hj.symm) (by simp; omega))))
        go_wp2
        go_roundw
        case rel =>
          refine ⟨k + 1, by omega, by go_num, ?_, hbel1⟩
          rw [add3_succ, HX0.out, HX1.out, HX2.out]
          exact hown1
        case measure => simp [intOf]; omega
      · obtain rfl : k = n := by omega
        obtain ⟨ad, cd, rfl, -, -, hbd⟩ := hown.shape
        have hcrc := Lib.hid (crc_add3 l0 l1 l2 k n0 n1 n2)
        have t0 : BytesAt wr a0 (l0.take k) := (h0.take k).below hbel (fun x e hl => by subst e; exact (h0.take k).lt hl)
        have t1 : BytesAt wr a1 (l1.take k) := (h1.take k).below hbel (fun x e hl => by subst e; exact (h1.take k).lt hl)
        have t2 : BytesAt wr a2 (l2.take k) := (h2.take k).below hbel (fun x e hl => by subst e; exact (h2.take k).lt hl)
        have p0 : (l0.take k).length = k := by simp; omega
        have p1 : (l1.take k).length = k := by simp; omega
        have p2 : (l2.take k).length = k := by simp; omega
        have hlen := add3_length l0 l1 l2 k
        generalize hd : add3 l0 l1 l2 k = d at *
        generalize hy0 : l0.take k = y0 at *
        generalize hy1 : l1.take k = y1 at *
        generalize hy2 : l2.take k = y2 at *
        have HL := Lib.hid hlen
        have P0 := Lib.hid p0
        have P1 := Lib.hid p1
        have P2 := Lib.hid p2
        have Q0 : (k : Int) ≤ (c0 : Int) := by omega
        have Q1 : (k : Int) ≤ (c1 : Int) := by omega
        have Q2 : (k : Int) ≤ (c2 : Int) := by omega
        clear hd hy0 hy1 hy2 hlen p0 p1 p2
        go_wp2
        have HH : Below w.heap.size w wr.drew ∧ BytesAt wr.drew ad d := ⟨hbel.drew, hbd⟩
        have T0 := Lib.hid t0
        have T1 := Lib.hid t1
        have T2 := Lib.hid t2
        clear t0 t1 t2 hbel hbd
        have ht : (((crc d).toNat : Int) == bits .xor .u32 (bits .xor .u32 (crc y0).toNat (crc y1).toNat) (crc y2).toNat) = true := by
          rw [bits_xor, bits_xor, hcrc.out]; simp
        go_region_held3 (fun w' => Below w.heap.size w w') (first | exact HH.1 | exact HH.1.trans (hb3.mono HH.1.size))
          (first
            | (go_at_call 27; (with_reducible refine (sum_any ad d cd _ ?_ ?_).mono ?_); (rw [HL.out]; omega); exact HH.2; rintro e w' ⟨rfl, rfl⟩)
            | (go_at_call 27; (with_reducible refine (sum_n a0 y0 k c0 _ P0.out ?_ ?_).mono ?_); (rw [P0.out]; omega); exact T0.out; rintro e w' ⟨rfl, rfl⟩)
            | (go_at_call 27; (with_reducible refine (sum_n a1 y1 k c1 _ P1.out ?_ ?_).mono ?_); (rw [P1.out]; omega); exact T1.out; rintro e w' ⟨rfl, rfl⟩)
            | (go_at_call 27; (with_reducible refine (sum_n a2 y2 k c2 _ P2.out ?_ ?_).mono ?_); (rw [P2.out]; omega); exact T2.out; rintro e w' ⟨rfl, rfl⟩)
            | (go_at_call 25; (with_reducible refine (known_any _).mono ?_); rintro e w3 ⟨rfl, hb3⟩))
        go_wp2
        go_ret
        exact ⟨rfl, HH.1.trans (hb3.mono HH.1.size)⟩

theorem adds_all (W : World) {v0 v1 v2 : Value} {l0 l1 l2 : List UInt8} (o0 : RdB W v0 l0) (o1 : RdB W v1 l1) (o2 : RdB W v2 l2) :
    Calls Try.prog 4 #[v0, v1, v2] W fun e w' => e = .returned (.bool true) ∧ Below W.heap.size W w' := by
  obtain ⟨a0, c0, rfl, b0, -, m0, k0⟩ := o0
  obtain ⟨a1, c1, rfl, b1, -, m1, k1⟩ := o1
  obtain ⟨a2, c2, rfl, b2, -, m2, k2⟩ := o2
  exact adds_walk a0 a1 a2 l0 l1 l2 c0 c1 c2 W m0 m1 m2 b0 b1 b2 k0 k1 k2
end Go.Proofs.Ytdinnkacilgmmaa
