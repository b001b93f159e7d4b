/- The journal: slices.Chunk. -/
import Derived.Test.YtdinnkacilgmmaaJourZ
import Derived.Test.YtdinnkacilgmmaaJoin2
import Derived.RangeFuncWrites
import Derived.BigRegionIn
namespace Go.Proofs.Ytdinnkacilgmmaa
open Go.RowKit

theorem chunk_any (w : World) (a : Option Addr) (n c : Nat) : Calls Try.prog 99 #[.slice a n c, .int .i64 242] w fun e w' => e = .returned (.func (.func 124) #[] #[.pointer (some ⟨w.heap.size, 0, none⟩), .pointer (some ⟨w.heap.size + 1, 0, none⟩)]) ∧ w' = (w.alloc (.cells #[.slice a n c] 22)).alloc (.cells #[.int .i64 242] 3) := by
  go_enter Try.func99, Try.ntmps99
  go_wp2
  go_ret
  exact ⟨rfl, rfl⟩

attribute [local go_sem] Oper.semAt_some

/-- the piece at k of L bytes that lie in block g -/
def pieceV (g L k : Nat) : Value := .slice (some ⟨g, 242 * k, none⟩) (min 242 (L - 242 * k)) (min 242 (L - 242 * k))
/-- two boxes keep what they hold -/
def Keeps2 (B1 B2 : Nat) (W W' : World) : Prop := KeepsAt B1 W W' ∧ KeepsAt B2 W W'

set_option maxRecDepth 100000 in
set_option maxHeartbeats 2000000 in
theorem chunk1_in (F : Fence) (n : Nat) (hf : F.fn 124) (hro : F.round = none) (hn : 1 ≤ n) (l B1 B2 g L cap : Nat) (hL : L ≤ 1048576) (hcap : L ≤ cap) (J Jx : List Nat → World → Prop)
    (hY : ∀ pre x W, J pre W → pre.length < (L + 241) / 242 → YieldAt F (n - 1) Try.prog l #[pieceV g L x] W fun e W' =>
      (e = .returned (.bool true) ∧ J (pre ++ [x]) W' ∧ Keeps2 B1 B2 W W') ∨ (e = .returned (.bool false) ∧ Jx (pre ++ [x]) W'))
    (W : World) (hB1 : W.cell? ⟨B1, 0, none⟩ = some (.slice (some ⟨g, 0, none⟩) L cap)) (hB2 : W.cell? ⟨B2, 0, none⟩ = some (.int .i64 242)) (h0 : J [] W) (hJd : ∀ s W, J s W → J s W.drew) :
    CallsIn F n Try.prog 124 #[.func (.yield l) #[] #[], .pointer (some ⟨B1, 0, none⟩), .pointer (some ⟨B2, 0, none⟩)] W fun e W' => (∃ v, e = .returned v) ∧
      ((∃ ys, ys = List.range ((L + 241) / 242) ∧ J ys W') ∨ (∃ pre, (∃ k, k ≤ (L + 241) / 242 ∧ pre = List.range k) ∧ Jx pre W')) := by
  refine callsIn_of_wp Try.func124 rfl hf ?_ hro
  simp only [Try.ntmps124, List.size_toArray, List.length_cons, List.length_nil, Nat.reduceAdd, Nat.reduceSub, Array.replicate_succ, Array.replicate_zero, List.push_toArray, List.append_toArray, List.nil_append, List.cons_append]
  gi_wp2
  gi_loopw [4] (fun i wr => ∃ k : Nat, k ≤ (L + 241) / 242 ∧ i = .int .i64 ((242 * k : Nat) : Int) ∧ J (List.range k) wr ∧ wr.cell? ⟨B1, 0, none⟩ = some (.slice (some ⟨g, 0, none⟩) L cap) ∧ wr.cell? ⟨B2, 0, none⟩ = some (.int .i64 242))
    (fun i _ => (L + 241) / 242 * 242 - (intOf i).toNat)
  case atStart => exact ⟨0, Nat.zero_le _, rfl, h0, hB1, hB2⟩
  case round =>
    obtain ⟨k, hk, rfl, hJs, hc1, hc2⟩ := hrel
    by_cases hlt : 242 * k < L
    · have hlt' : ((242 * k : Nat) : Int) < (L : Int) := by omega
      have hval : pieceV g L k = .slice (some ⟨g, 242 * k, none⟩) (min 242 (L - 242 * k)) (min 242 (L - 242 * k)) := rfl
      have hmin : (if ((L - 242 * k : Nat) : Int) < 242 then ((L - 242 * k : Nat) : Int) else 242) = ((min 242 (L - 242 * k) : Nat) : Int) := by
        split <;> omega
      obtain ⟨m, hm⟩ : ∃ m : Nat, m = min 242 (L - 242 * k) := ⟨_, rfl⟩
      rw [← hm] at hmin hval
      have hYk := hY (List.range k) k wr.drew (hJd _ _ hJs) (by rw [List.length_range]; omega)
      rw [hval] at hYk
      obtain ⟨fn, tmps, assign, body, hy, hR⟩ := hYk
      have hm2 : 242 * k + m ≤ L := by omega
      have hm3 : 1 ≤ m := by omega
      have hm4 : m ≤ 242 := by omega
      replace hm := Lib.hid hm
      have hn1 : k + 1 ≤ (L + 241) / 242 := by omega
      have HRG : Hid (List.range (k + 1) = List.range k ++ [k]) := List.range_succ
      gi_wp2
      gi_region
      all_goals
        gi_wp2
        refine hR.mono ?_
        rintro e W3 (⟨rfl, hJ3, hk3, hk4⟩ | ⟨rfl, hJx3⟩)
        · have hB3 : W3.cell? ⟨B1, 0, none⟩ = some (.slice (some ⟨g, 0, none⟩) L cap) := hk3.trans hc1
          have hB4 : W3.cell? ⟨B2, 0, none⟩ = some (.int .i64 242) := hk4.trans hc2
          clear hk3 hk4
          gi_wp2
          go_roundw
          case rel => exact ⟨k + 1, hn1, by go_num, by rw [HRG.out]; exact hJ3, hB3, hB4⟩
          case measure => simp [intOf]; omega
        · gi_wp2
          refine bodyPost_ret (results_none rfl _ _ _) rfl ?_
          exact ⟨⟨_, rfl⟩, .inr ⟨_, ⟨k + 1, hn1, HRG.out.symm⟩, hJx3⟩⟩
    · have hke : k = (L + 241) / 242 := by omega
      gi_wp2
      go_end0
      exact ⟨⟨_, rfl⟩, .inl ⟨_, rfl, by rw [← hke]; exact hJs⟩⟩
end Go.Proofs.Ytdinnkacilgmmaa
