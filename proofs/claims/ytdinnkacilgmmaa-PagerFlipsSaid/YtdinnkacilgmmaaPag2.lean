/- The pager: sealed, opened. -/
import Derived.Test.YtdinnkacilgmmaaPag1
namespace Go.Proofs.Ytdinnkacilgmmaa
open Go.RowKit

/-- bytes as a page -/
def pad (b : List UInt8) : List UInt8 := b ++ List.replicate (252 - b.length) 0
/-- a sector of bytes, with their sum -/
def seal_ (b : List UInt8) : List UInt8 := le 4 (crc (pad b)).toNat ++ pad b
/-- its sum is right -/
def sound (s : List UInt8) : Bool := decide (unle (s.take 4) = (crc (s.drop 4)).toNat)
theorem pad_length (b : List UInt8) (h : b.length ≤ 252) : (pad b).length = 252 := by simp [pad]; omega
theorem seal_length (b : List UInt8) (h : b.length ≤ 252) : (seal_ b).length = 256 := by rw [seal_, List.length_append, le_length, pad_length b h]
theorem seal_drop (b : List UInt8) : (seal_ b).drop 4 = pad b := List.drop_left' (le_length _ _)
theorem seal_sound (b : List UInt8) : sound (seal_ b) = true := by
  unfold sound
  rw [seal_drop]
  have : (seal_ b).take 4 = le 4 (crc (pad b)).toNat := List.take_left' (le_length _ _)
  rw [this, unle_le]
  have hlt := (crc (pad b)).isLt
  exact decide_eq_true (Nat.mod_eq_of_lt (by omega))
theorem pad_pad (b : List UInt8) (h : b.length ≤ 252) : pad (pad b) = pad b := by
  unfold pad
  rw [List.length_append, List.length_replicate, show 252 - (b.length + (252 - b.length)) = 0 by omega]
  simp

theorem fill_pad (b : List UInt8) (h : b.length ≤ 252) : splice (List.replicate 256 (0 : UInt8)) 4 b = List.replicate 4 0 ++ pad b := by
  unfold splice pad
  rw [List.take_replicate, List.drop_replicate, show min 4 256 = 4 by rfl, show 256 - (4 + b.length) = 252 - b.length by omega]
theorem fill_seal (b : List UInt8) : splice (List.replicate 4 0 ++ pad b) 0 (le 4 (crc (pad b)).toNat) = seal_ b := by
  unfold splice seal_
  rw [le_length, List.take_zero, List.nil_append]
  congr 1

set_option maxHeartbeats 1000000 in
set_option maxRecDepth 100000 in
theorem sealed_any {w : World} (a : Option Addr) (p : List UInt8) (n cap : Nat) (hn : p.length = n) (hp : p.length ≤ 252) (hb : BytesAt w a p) (C : Nat) (hC : C ≤ w.heap.size) :
    Calls Try.prog 106 #[.slice a n cap] w fun e w' => ∃ v, e = .returned v ∧ OwnB w' C v (seal_ p) ∧ Mod (fun _ => False) w w' ∧ (∀ k, v.ownBlock = some k → w.heap.size ≤ k) := by
  subst hn
  obtain ⟨W1, hW1⟩ : ∃ W1, W1 = w.alloc (.cells (zerosV 256) 5) := ⟨_, rfl⟩
  obtain ⟨g, hg⟩ : ∃ g, g = w.heap.size := ⟨_, rfl⟩
  have o1 : OwnB W1 g (.slice (some ⟨g, 0, none⟩) 256 256) (List.replicate 256 0) := by
    have := OwnB.made w g (List.replicate 256 0) (zerosV 256) rfl (by omega) (by rw [List.length_replicate]; decide)
    rw [List.length_replicate] at this
    rw [hW1, hg]
    rw [hg] at this
    exact this
  have m1 : Mod (fun _ => False) w W1 := by rw [hW1]; exact Mod.alloc _ _ _
  have km2 : (Instr.makeSlice 22 (.int .i64 256) (.int .i64 256)).run Try.prog w = .ok (.slice (some ⟨g, 0, none⟩) 256 256) W1 := by rw [hW1, hg]; exact run_make_bytes w 256 (by decide)
  have HC := Lib.hid hC
  have HG := Lib.hid hg
  have hb1 := hb.mod m1 (fun _ _ _ => id)
  obtain ⟨g', cap', cur, eg, -, hg3, -, -, hsz3, -⟩ := o1.row (by intro e; have := congrArg List.length e; rw [List.length_replicate] at this; cases this)
  cases eg
  obtain ⟨w4, hrun, hw4, hm4⟩ := copy_run (w := W1) 3 g 4 252 252 a p.length cap p rfl hp hb1 cur 5 hg3 (by rw [hsz3]; omega)
  have o4 := OwnB.laid o1 hg3 hw4 (by rw [List.length_replicate]; omega)
  rw [fill_pad p hp] at o4
  have m4 : Mod (fun _ => False) w w4 := m1.trans hm4 (fun j hj e => by have := HG.out; omega)
  have hbl := pad_length p hp
  have hbs := (OwnB.bytes o4).2.sub 4 252
  rw [Nat.zero_add, show ((List.replicate 4 (0 : UInt8) ++ pad p).drop 4).take 252 = pad p by rw [List.drop_left' (by rw [List.length_replicate]), List.take_of_length_le (by omega)]] at hbs
  have O4 := Lib.hid o4
  have HBS := Lib.hid hbs
  have HBL := Lib.hid hbl
  have HM4 := Lib.hid m4
  have HRUN := Lib.hid hrun
  have hpl : (p.length : Int) ≤ 252 := by omega
  clear hW1 hg hC o1 o4 hbs hbl hw4 hm4 hg3 hsz3 m4 m1 hb hb1 hrun
  go_enter Try.func106, Try.ntmps106
  go_wp2_with fail
  rw [HRUN.out]
  clear HRUN
  go_upto_region 3 with fail
  have md : Mod (fun _ => False) w4 w4.drew := Mod.drew _ _
  have hwq : IntKind.u64.wrap ((crc (pad p)).toNat : Int) = ((crc (pad p)).toNat : Int) := IntWalk.u64_in _ (by have := (crc (pad p)).isLt; omega)
  go_region_held3 (fun _ => True) (trivial)
    (first
      | (go_at_call 27; refine (sum_n (some ⟨g, 4, none⟩) (pad p) 252 252 _ HBL.out (by rw [HBL.out]; decide) (HBS.out.mod md (fun _ _ _ => id))).mono ?_; rintro e w' ⟨rfl, rfl⟩)
      | (go_at_call 130; refine (put_any (O4.out.mod md (fun _ _ => id)) 0 4 256 (by decide) (by rw [List.length_append]; simp) (crc (pad p)).toNat).mono ?_; rintro e w6 ⟨rfl, o6, m6⟩))
  rw [fill_seal] at o6
  have O6 := Lib.hid o6
  have M6 := Lib.hid m6
  clear o6 m6
  go_wp2
  go_ret
  exact ⟨_, rfl, O6.out.weaken (by rw [HG.out]; exact HC.out), (HM4.out.trans' md).trans M6.out (fun j hj e => by have := HG.out; omega), fun k hk => by simp [Value.ownBlock] at hk; have := HG.out; omega⟩

set_option maxHeartbeats 1000000 in
set_option maxRecDepth 100000 in
theorem opened_any {w : World} {C g cap : Nat} {b : List UInt8} (ho : OwnB w C (.slice (some ⟨g, 0, none⟩) 256 cap) b) (hlen : b.length = 256) (hcap : 256 ≤ cap) :
    Calls Try.prog 108 #[.slice (some ⟨g, 0, none⟩) 256 cap] w fun e w' => e = .returned (.tuple #[.slice (some ⟨g, 4, none⟩) 252 (cap - 4), .bool (sound b)]) ∧ Mod (fun _ => False) w w' := by
  have hbs := (OwnB.bytes ho).2
  have e2 : (b.drop 4).take 252 = b.drop 4 := List.take_of_length_le (by rw [List.length_drop, hlen]; decide)
  have b1 := hbs.take0 4
  have b2 := hbs.sub 4 252
  rw [e2, Nat.zero_add] at b2
  have KG : ∀ w', Mod (fun _ => False) w w' → Calls Try.prog 128 #[.slice (some ⟨g, 0, none⟩) 4 cap] w' fun e w'' => e = .returned (.int .u64 (unle (b.take 4) : Int)) ∧ Mod (fun _ => False) w w'' := fun w' hm' =>
    (get_any w' (some ⟨g, 0, none⟩) (b.take 4) 4 cap (by rw [List.length_take, hlen]; decide) (b1.mod hm' (fun _ _ _ => id)) (by rw [List.length_take]; omega)).mono fun e w'' ⟨he, hm⟩ => ⟨he, hm'.trans' hm⟩
  have KS : ∀ w', Mod (fun _ => False) w w' → Calls Try.prog 27 #[.slice (some ⟨g, 4, none⟩) 252 (cap - 4)] w' fun e w'' => e = .returned (.int .u32 ((crc (b.drop 4)).toNat : Int)) ∧ w' = w'' := fun w' hm' =>
    sum_n _ (b.drop 4) 252 _ w' (by rw [List.length_drop, hlen]) (by rw [List.length_drop, hlen]; decide) (b2.mod hm' (fun _ _ _ => id))
  have hSlt := (crc (b.drop 4)).isLt
  obtain ⟨sb, hsb⟩ : ∃ sb, sb = sound b := ⟨_, rfl⟩
  rw [← hsb]
  unfold sound at hsb
  generalize unle (b.take 4) = A at *
  generalize (crc (b.drop 4)).toNat = S at *
  have wS : IntKind.u64.wrap (S : Int) = (S : Int) := IntWalk.u64_in _ (by omega)
  have hcap4 : (4 : Int) ≤ (cap : Int) := by omega
  have hcap0 : ¬ (cap = 4) := by omega
  have hcap256 : (256 : Int) ≤ (cap : Int) := by omega
  replace KG := Lib.hid KG
  replace KS := Lib.hid KS
  have HSB := Lib.hid hsb
  clear ho hbs e2 b1 b2 hsb
  go_enter Try.func108, Try.ntmps108
  go_wp2_with fail
  have md : Mod (fun _ => False) w w.drew := Mod.drew _ _
  go_region_held3 (fun w' => Mod (fun _ => False) w w') (assumption)
    (first
      | (go_at_call 128; (with_reducible refine (KG.out _ (by assumption)).mono ?_); rintro e w1 ⟨rfl, hm1⟩)
      | (go_at_call 27; (with_reducible refine (KS.out _ (by assumption)).mono ?_); rintro e w' ⟨rfl, rfl⟩))
  go_wp2
  go_ret2
  have hh := HSB.out
  refine ⟨?_, ‹Mod _ _ _›⟩
  have : ((A : Int) == (S : Int)) = decide (A = S) := by
    by_cases e : A = S
    · subst e; simp
    · have : ¬ ((A : Int) = (S : Int)) := by omega
      simp [e, this]
  exact ret_val (by show Value.tuple #[_, .bool ((A : Int) == (S : Int))] = _; rw [this, ← hh]; rfl)
end Go.Proofs.Ytdinnkacilgmmaa
