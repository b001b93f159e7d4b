/- The pager: numbers as bytes; slices.Backward. -/
import Derived.Test.YtdinnkacilgmmaaJourZ
import Derived.Test.YtdinnkacilgmmaaJoin2
import Derived.RangeFuncWrites
import Derived.BigRegionIn
namespace Go.Proofs.Ytdinnkacilgmmaa
open Go.RowKit

set_option maxRecDepth 100000 in
theorem put_any {w : World} {B g n0 cap0 : Nat} {l : List UInt8} (ho : OwnB w B (.slice (some ⟨g, 0, none⟩) n0 cap0) l) (off k cap : Nat) (hk : k ≤ 8) (hf : off + k ≤ l.length) (n : Nat) :
    Calls Try.prog 130 #[.slice (some ⟨g, off, none⟩) k cap, .int .u64 (n : Int)] w fun e w' => e = .returned (.tuple #[]) ∧ OwnB w' B (.slice (some ⟨g, 0, none⟩) n0 cap0) (splice l off (le k n)) ∧ Mod (fun j => j = g) w w' := by
  go_enter Try.func130, Try.ntmps130
  go_wp2_with fail
  go_loopw [1, 7] (fun v1 v7 wr => ∃ i : Nat, i ≤ k ∧ v7 = .int .i64 (i : Int) ∧ v1 = .int .u64 ((n / 256 ^ i : Nat) : Int) ∧ OwnB wr B (.slice (some ⟨g, 0, none⟩) n0 cap0) (splice l off (le i n)) ∧ Mod (fun j => j = g) w wr) (fun _ v7 _ => k - (intOf v7).toNat)
  case atStart => exact ⟨0, Nat.zero_le _, rfl, by simp, by simpa [le, splice] using ho, Mod.refl _ _⟩
  case round =>
    obtain ⟨i, hi, rfl, rfl, hr, hm⟩ := hrel
    by_cases hlt : i < k
    · have hlt' : (i : Int) < (k : Int) := by omega
      have hlen := length_splice l off (le i n) (by rw [le_length]; omega)
      obtain ⟨x0, x1⟩ := hr.cellAt (off + i) (by rw [hlen]; omega)
      have hst := hr.store (off + i) (UInt8.ofNat (n / 256 ^ i))
      rw [splice_le_set l off i n (by omega)] at hst
      have hdv : n / 256 ^ (i + 1) = n / 256 ^ i / 256 := by rw [Nat.pow_succ, Nat.div_div_eq_div_mul]
      have hxn := Nat.div_le_self n (256 ^ i)
      have HST := Lib.hid hst
      have HDV := Lib.hid hdv
      generalize (splice l off (le i n))[off + i] = c0 at *
      generalize n / 256 ^ i = x at *
      have hbu : (x : Int) % 256 = ((UInt8.ofNat x).toNat : Int) := by rw [UInt8.toNat_ofNat']; omega
      have HBU := Lib.hid hbu
      clear hst hbu hdv hlen hr ho
      go_wp2_with fail
      go_roundw
      case rel =>
        refine ⟨i + 1, by omega, by go_num, ?_, ?_, ?_⟩
        · rw [HDV.out]; first | rfl | (congr 1; omega)
        · rw [HBU.out]; exact HST.out
        · exact hm.trans (Mod.setCell (F := fun j => j = g) _ _ _ rfl) (fun _ _ e => e)
      case measure => simp [intOf]; omega
    · obtain rfl : i = k := by omega
      go_wp2
      go_end0
      exact ⟨rfl, hr, hm⟩

theorem backward_any (w : World) (a : Option Addr) (n c : Nat) : Calls Try.prog 141 #[.slice a n c] w fun e w' => e = .returned (.func (.func 144) #[] #[.pointer (some ⟨w.heap.size, 0, none⟩)]) ∧ w' = w.alloc (.cells #[.slice a n c] 22) := by
  go_enter Try.func141, Try.ntmps141
  go_wp2
  go_ret
  exact ⟨rfl, rfl⟩

attribute [local go_sem] Oper.semAt_some

/-- what Backward hands over at its k-th round -/
def backV (l : List UInt8) (k : Nat) : Array Value := #[.int .i64 (((l.length - 1 - k : Nat)) : Int), byteV (l.getD (l.length - 1 - k) 0)]
/-- what its rounds keep: its box, and the bytes -/
def KeepsB (B1 : Nat) (a : Option Addr) (l : List UInt8) (W W' : World) : Prop := KeepsAt B1 W W' ∧ (BytesAt W a l → BytesAt W' a l)

set_option maxRecDepth 100000 in
set_option maxHeartbeats 2000000 in
theorem backward_in (F : Fence) (n : Nat) (hf : F.fn 144) (hro : F.round = none) (hn : 1 ≤ n) (l B1 : Nat) (a : Option Addr) (bs : List UInt8) (cap : Nat) (hL : bs.length ≤ 1048576) (J Jx : List Nat → World → Prop)
    (hY : ∀ pre x W, J pre W → pre.length < bs.length → YieldAt F (n - 1) Try.prog l (backV bs x) W fun e W' =>
      (e = .returned (.bool true) ∧ J (pre ++ [x]) W' ∧ KeepsB B1 a bs W W') ∨ (e = .returned (.bool false) ∧ Jx (pre ++ [x]) W'))
    (W : World) (hB1 : W.cell? ⟨B1, 0, none⟩ = some (.slice a bs.length cap)) (hb : BytesAt W a bs) (h0 : J [] W) :
    CallsIn F n Try.prog 144 #[.func (.yield l) #[] #[], .pointer (some ⟨B1, 0, none⟩)] W fun e W' => (∃ v, e = .returned v) ∧
      ((∃ ys, ys = List.range bs.length ∧ J ys W') ∨ (∃ pre, (∃ k, k ≤ bs.length ∧ pre = List.range k) ∧ Jx pre W')) := by
  refine callsIn_of_wp Try.func144 rfl hf ?_ hro
  simp only [Try.ntmps144, List.size_toArray, List.length_cons, List.length_nil, Nat.reduceAdd, Nat.reduceSub, Array.replicate_succ, Array.replicate_zero, List.push_toArray, List.append_toArray, List.nil_append, List.cons_append]
  gi_wp2
  gi_loopw [3] (fun i wr => ∃ k : Nat, k ≤ bs.length ∧ i = .int .i64 ((bs.length : Int) - 1 - (k : Int)) ∧ J (List.range k) wr ∧ wr.cell? ⟨B1, 0, none⟩ = some (.slice a bs.length cap) ∧ BytesAt wr a bs)
    (fun i _ => (intOf i + 1).toNat)
  case atStart => exact ⟨0, Nat.zero_le _, by simp, h0, hB1, hb⟩
  case round =>
    obtain ⟨k, hk, rfl, hJs, hc1, hbk⟩ := hrel
    by_cases hlt : k < bs.length
    · have hlt' : (0 : Int) ≤ (bs.length : Int) - 1 - (k : Int) := by omega
      have hlt2 : (bs.length : Int) - 1 - (k : Int) < (bs.length : Int) := by omega
      obtain ⟨b, off, rfl, hc⟩ := hbk (by intro e; rw [e] at hlt; simp at hlt)
      have xc := hc (bs.length - 1 - k) (by omega)
      have hto : ((bs.length : Int) - 1 - (k : Int)).toNat = bs.length - 1 - k := by omega
      have hYk := hY (List.range k) k wr hJs (by rw [List.length_range]; exact hlt)
      have hbv : backV bs k = #[.int .i64 ((bs.length : Int) - 1 - (k : Int)), byteV bs[bs.length - 1 - k]] := by
        unfold backV
        rw [show (((bs.length - 1 - k : Nat)) : Int) = (bs.length : Int) - 1 - (k : Int) by omega, List.getD_eq_getElem?_getD, List.getElem?_eq_getElem (by omega)]
        rfl
      rw [hbv] at hYk
      obtain ⟨fn, tmps, assign, body, hy, hR⟩ := hYk
      have HRG : Hid (List.range (k + 1) = List.range k ++ [k]) := List.range_succ
      have HB := Lib.hid hbk
      have HC1 := Lib.hid hc1
      clear hbv hc hbk
      generalize bs[bs.length - 1 - k] = cc at *
      gi_wp2
      refine hR.mono ?_
      rintro e W3 (⟨rfl, hJ3, hk3, hk4⟩ | ⟨rfl, hJx3⟩)
      · have hB3 : W3.cell? ⟨B1, 0, none⟩ = some (.slice (some ⟨b, off, none⟩) bs.length cap) := hk3.trans HC1.out
        have hB4 := hk4 HB.out
        clear hk3 hk4
        gi_wp2
        go_roundw
        case rel => exact ⟨k + 1, by omega, by congr 1; push_cast; omega, by rw [HRG.out]; exact hJ3, hB3, hB4⟩
        case measure => simp [intOf]; omega
      · gi_wp2
        refine bodyPost_ret (results_none rfl _ _ _) rfl ?_
        exact ⟨⟨_, rfl⟩, .inr ⟨_, ⟨k + 1, by omega, HRG.out.symm⟩, hJx3⟩⟩
    · have hke : k = bs.length := by omega
      subst hke
      have : ¬ (0 : Int) ≤ (bs.length : Int) - 1 - (bs.length : Int) := by omega
      gi_wp2
      go_end0
      exact ⟨⟨_, rfl⟩, Or.inl hJs⟩
end Go.Proofs.Ytdinnkacilgmmaa
