/- The journal: a sector of a piece. -/
import Derived.Test.YtdinnkacilgmmaaJour0
import Derived.Test.YtdinnkacilgmmaaOrd
namespace Go.Proofs.Ytdinnkacilgmmaa
open Go.RowKit

/-- a sector's bytes behind its sum -/
def body (s : Nat) (f : UInt8) (p : List UInt8) : List UInt8 := le 8 s ++ [f, UInt8.ofNat p.length] ++ p ++ List.replicate (242 - p.length) 0
def secB (s : Nat) (f : UInt8) (p : List UInt8) : List UInt8 := le 4 (crc (body s f p)).toNat ++ body s f p
theorem body_length (s : Nat) (f : UInt8) (p : List UInt8) (h : p.length ≤ 242) : (body s f p).length = 252 := by
  simp [body, le_length]; omega
theorem secB_length (s : Nat) (f : UInt8) (p : List UInt8) (h : p.length ≤ 242) : (secB s f p).length = 256 := by
  simp [secB, le_length, body_length s f p h]

theorem zeros_split (n : Nat) (h : n ≤ 256) : List.replicate 256 (0 : UInt8) = List.replicate n 0 ++ List.replicate (256 - n) 0 := by
  rw [List.replicate_append_replicate]; congr 1; omega

/-- the row while it is being filled -/
theorem fill_steps (s : Nat) (f : UInt8) (p : List UInt8) (h : p.length ≤ 242) :
    splice (((splice (List.replicate 256 0) 4 (le 8 s)).set 12 f).set 13 (UInt8.ofNat p.length)) 14 p = List.replicate 4 0 ++ body s f p := by
  have e1 : splice (List.replicate 256 (0 : UInt8)) 4 (le 8 s) = List.replicate 4 0 ++ le 8 s ++ List.replicate 244 0 := by
    unfold splice
    rw [le_length, List.take_replicate, List.drop_replicate]
    show List.replicate 4 0 ++ (le 8 s ++ List.replicate 244 0) = _
    rw [List.append_assoc]
  have e2 : (List.replicate 4 (0 : UInt8) ++ le 8 s).length = 12 := by simp [le_length]
  rw [e1]
  generalize hA : List.replicate 4 (0 : UInt8) ++ le 8 s = A at *
  have e3 : ((A ++ List.replicate 244 0).set 12 f).set 13 (UInt8.ofNat p.length) = A ++ [f, UInt8.ofNat p.length] ++ List.replicate 242 0 := by
    rw [List.set_append_right _ _ (by omega), List.set_append_right _ _ (by omega), e2]
    rw [List.append_assoc]
    rfl
  rw [e3]
  unfold splice body
  rw [List.take_append_of_le_length (by simp [e2]), List.take_of_length_le (by simp [e2])]
  rw [List.drop_append, List.drop_of_length_le (by simp [e2])]
  simp only [List.length_append, e2, List.length_cons, List.length_nil, List.drop_replicate, List.nil_append, List.append_assoc]
  rw [← List.append_assoc (List.replicate 4 0), hA]
  simp only [List.cons_append, List.nil_append]
  congr 5
  omega

theorem fill_sum (s : Nat) (f : UInt8) (p : List UInt8) : splice (List.replicate 4 0 ++ body s f p) 0 (le 4 (crc (body s f p)).toNat) = secB s f p := by
  unfold splice secB
  rw [le_length, List.take_zero, List.nil_append]
  congr 1

set_option maxHeartbeats 1000000 in
set_option maxRecDepth 100000 in
theorem jsector_any {w : World} (s : Nat) (hs : s < 9223372036854775808) (f : UInt8) (a : Option Addr) (p : List UInt8) (cap : Nat) (hp : p.length ≤ 242) (hb : BytesAt w a p) (C : Nat) (hC : C ≤ w.heap.size) :
    Calls Try.prog 101 #[.int .i64 (s : Int), .int .u8 (f.toNat : Int), .slice a p.length cap] w fun e w' => ∃ v, e = .returned v ∧ OwnB w' C v (secB s f p) ∧ Mod (fun _ => False) w w' ∧ (∀ k, v.ownBlock = some k → w.heap.size ≤ k) := by
  have km : ∀ w : World, (Instr.makeSlice 22 (.int .i64 256) (.int .i64 256)).run Try.prog w = .ok (.slice (some ⟨w.heap.size, 0, none⟩) 256 256) (w.alloc (.cells (zerosV 256) 5)) := fun w => run_make_bytes w 256 (by decide)
  obtain ⟨W1, hW1⟩ : ∃ W1, W1 = w.alloc (.cells (zerosV 256) 5) := ⟨_, rfl⟩
  obtain ⟨g, hg⟩ : ∃ g, g = w.heap.size := ⟨_, rfl⟩
  have o1 : OwnB W1 g (.slice (some ⟨g, 0, none⟩) 256 256) (List.replicate 256 0) := by
    have := OwnB.made w g (List.replicate 256 0) (zerosV 256) rfl (by omega) (by rw [List.length_replicate]; decide)
    rw [List.length_replicate] at this
    rw [hW1, hg]
    rw [hg] at this
    exact this
  have m1 : Mod (fun _ => False) w W1 := by rw [hW1]; exact Mod.alloc _ _ _
  have hsz : g < W1.heap.size := by rw [hW1, hg]; simp
  have km2 : (Instr.makeSlice 22 (.int .i64 256) (.int .i64 256)).run Try.prog w = .ok (.slice (some ⟨g, 0, none⟩) 256 256) W1 := by rw [hW1, hg]; exact km w
  have HC := Lib.hid hC
  have HG := Lib.hid hg
  clear km hW1 hg hC
  have O1 := Lib.hid o1
  clear o1
  go_enter Try.func101, Try.ntmps101
  go_wp2_with fail
  refine (little_any O1.out 4 8 _ (by decide) (by rw [List.length_replicate]; decide) s).mono ?_
  rintro e w2 ⟨rfl, o2, m2⟩
  have hl2 : (splice (List.replicate 256 (0 : UInt8)) 4 (le 8 s)).length = 256 := by rw [length_splice _ _ _ (by rw [le_length, List.length_replicate]; decide), List.length_replicate]
  have x12 := o2.cellAt 12 (by omega)
  have x13 := o2.cellAt 13 (by omega)
  have o3 := (o2.store 12 f).store 13 (UInt8.ofNat p.length)
  have O3 := Lib.hid o3
  have HL2 := Lib.hid hl2
  obtain ⟨y0, y1⟩ := x12
  obtain ⟨z0, z1⟩ := x13
  generalize (splice (List.replicate 256 (0 : UInt8)) 4 (le 8 s))[12] = c12 at *
  generalize (splice (List.replicate 256 (0 : UInt8)) 4 (le 8 s))[13] = c13 at *
  clear o2 o3 hl2
  have hpl : (p.length : Int) ≤ 242 := by omega
  go_wp2_with fail
  have hbv : Value.int .u8 (p.length : Int) = byteV (UInt8.ofNat p.length) := by
    show _ = Value.int .u8 ((UInt8.ofNat p.length).toNat : Int)
    rw [UInt8.toNat_ofNat']
    congr 1
    omega
  obtain ⟨W3, hW3⟩ : ∃ W3, W3 = (w2.setCell ⟨g, 12, none⟩ (.int .u8 (f.toNat : Int))).setCell ⟨g, 13, none⟩ (.int .u8 (p.length : Int)) := ⟨_, rfl⟩
  rw [← hW3]
  have o3 := O3.out
  rw [show (byteV f) = Value.int .u8 (f.toNat : Int) from rfl, ← hbv, ← hW3] at o3
  have m3 : Mod (fun _ => False) w W3 := by
    have hm : Mod (fun j => j = g) w2 W3 := by rw [hW3]; exact (Mod.setCell (F := fun j => j = g) _ _ _ rfl).trans' (Mod.setCell (F := fun j => j = g) _ _ _ rfl)
    exact (m1.trans m2 (fun j hj e => by have := HG.out; omega)).trans hm (fun j hj e => by have := HG.out; omega)
  have hb3 := hb.mod m3 (fun _ _ _ => id)
  have hl3 : (((splice (List.replicate 256 0) 4 (le 8 s)).set 12 f).set 13 (UInt8.ofNat p.length)).length = 256 := by rw [List.length_set, List.length_set]; exact HL2.out
  obtain ⟨g', cap', cur, eg, -, hg3, -, -, hsz3, -⟩ := o3.row (by intro e; rw [e] at hl3; cases hl3)
  cases eg
  obtain ⟨w4, hrun, hw4, hm4⟩ := copy_run (w := W3) 3 g 14 242 242 a p.length cap p rfl hp hb3 cur 5 hg3 (by rw [hsz3]; omega)
  rw [hrun]
  clear hrun
  have o4 := OwnB.laid o3 hg3 hw4 (by rw [hl3]; omega)
  rw [fill_steps s f p hp] at o4
  have m4 : Mod (fun _ => False) w w4 := m3.trans hm4 (fun j hj e => by have := HG.out; omega)
  have hbl := body_length s f p hp
  have hbs := (OwnB.bytes o4).2.sub 4 252
  rw [Nat.zero_add, show ((List.replicate 4 (0 : UInt8) ++ body s f p).drop 4).take 252 = body s f p by rw [List.drop_left' (by rw [List.length_replicate]), List.take_of_length_le (by omega)]] at hbs
  have O4 := Lib.hid o4
  have HBS := Lib.hid hbs
  have HBL := Lib.hid hbl
  have HM4 := Lib.hid m4
  clear o3 o4 hbs hbl hw4 hm4 hg3 hsz3 hl3 hb3 m3 m4 hW3 hbv m1 m2 y0 y1 z0 z1 hb O3
  go_upto_region 5 with fail
  have md : Mod (fun _ => False) w4 w4.drew := Mod.drew _ _
  have hwq : IntKind.u64.wrap ((crc (body s f p)).toNat : Int) = ((crc (body s f p)).toNat : Int) := IntWalk.u64_in _ (by have := (crc (body s f p)).isLt; omega)
  go_region_held3 (fun _ => True) (trivial)
    (first
      | (go_at_call 27; refine (sum_n (some ⟨g, 4, none⟩) (body s f p) 252 252 _ HBL.out (by rw [HBL.out]; decide) (HBS.out.mod md (fun _ _ _ => id))).mono ?_; rintro e w' ⟨rfl, rfl⟩)
      | (go_at_call 98; refine (little_any (O4.out.mod md (fun _ _ => id)) 0 4 256 (by decide) (by rw [List.length_append]; simp) (crc (body s f p)).toNat).mono ?_; rintro e w6 ⟨rfl, o6, m6⟩))
  rw [fill_sum] at o6
  have O6 := Lib.hid o6
  have M6 := Lib.hid m6
  clear o6 m6
  go_wp2
  go_ret
  exact ⟨_, rfl, O6.out.weaken (by rw [HG.out]; exact HC.out), (HM4.out.trans' md).trans M6.out (fun j hj e => by have := HG.out; omega), fun k hk => by simp [Value.ownBlock] at hk; have := HG.out; omega⟩
end Go.Proofs.Ytdinnkacilgmmaa
