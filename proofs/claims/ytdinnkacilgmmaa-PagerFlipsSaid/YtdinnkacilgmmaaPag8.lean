/- The pager: set, empty, Free. -/
import Derived.Test.YtdinnkacilgmmaaPag7
namespace Go.Proofs.Ytdinnkacilgmmaa
open Go.RowKit

theorem zero151 : Try.zeroCells151 = (zeros4096.map byteV).toArray := by kernel_rfl
theorem info151_size : (Try.prog.info? 151).map (·.size) = some 4096 := by kernel_rfl
theorem run_store151 {w : World} {B q p : Nat} {vm : Value} {P : Pgr} (h : PgV w B q p vm P) :
    ∃ w', (storeCells ⟨q, 3, none⟩ Try.zeroCells151.toList).run Try.prog w = .ok () w' ∧ PgV w' B q p vm { P with is_ := zeros4096 } ∧ Mod (fun k => k = q) w w' := by
  rw [zero151]
  have hr := run_storeCells_at (P := Try.prog) q 3 153 (zeros4096.map byteV) 0 _ w h.at_ (by rw [List.length_map, zeros4096_length, List.size_toArray, pgCells_length h.len]; decide) (bytes_oneCell _)
  refine ⟨_, hr, ⟨?_, h.hq, h.mt.mod (Mod.setRow (F := fun k => k = q) _ _ _ rfl) (fun k hk e => h.ne (by rw [hk, e])), zeros4096_length⟩, Mod.setRow _ _ _ rfl⟩
  rw [setRow_heap w q _ _ 153 (0, 0) h.at_]
  refine congrArg (fun C => some (Obj.cells C 153 (0, 0))) (congrArg List.toArray ?_)
  rw [List.length_map, zeros4096_length]
  unfold pgCells
  rw [show (3 + 0 + 4096 : Nat) = 4096 + 1 + 1 + 1 by rfl, show (3 + 0 : Nat) = 0 + 1 + 1 + 1 by rfl]
  simp only [List.take_succ_cons, List.take_zero, List.drop_succ_cons]
  rw [List.drop_left' (by rw [List.length_map]; exact h.len)]
  rfl
def setAll (l : List Int) (s : List UInt8) : List UInt8 := l.foldl (fun s n => s.set n.toNat 1) s
theorem setAll_snoc (l : List Int) (n : Int) (s : List UInt8) : setAll (l ++ [n]) s = (setAll l s).set n.toNat 1 := by simp [setAll]
theorem setAll_length (l : List Int) (s : List UInt8) : (setAll l s).length = s.length := by
  induction l generalizing s with
  | nil => rfl
  | cons n l ih => show (setAll l _).length = _; rw [ih, List.length_set]
set_option maxHeartbeats 1000000 in
set_option maxRecDepth 100000 in
theorem pset_any {w : World} {B q p : Nat} {vm : Value} {P : Pgr} (hp : PgV w B q p vm P) (a : Option Addr) (l : List Int) (n cap : Nat) (hn : l.length = n) (hll : l.length ≤ 140737488355328) (hl : IntsAt w a l) (hla : ∀ x, a = some x → l ≠ [] → ¬ x.block = q) (hall : ∀ x ∈ l, 0 ≤ x ∧ x < 4096) :
    Calls Try.prog 112 #[.pointer (some ⟨q, 0, none⟩), .slice a n cap] w fun e w' => e = .returned (.tuple #[]) ∧ PgV w' B q p vm { P with is_ := setAll l zeros4096 } ∧ Mod (fun k => k = q) w w' := by
  subst hn
  obtain ⟨w1, hrun, hp1, hm1⟩ := run_store151 hp
  have hl1 := hl.mod hm1 hla
  have HL1 := Lib.hid hl1
  have HALL := Lib.hid hall
  have HLA := Lib.hid hla
  have HP1 := Lib.hid hp1
  have HM1 := Lib.hid hm1
  clear hl1 hall hla hp1 hm1 hl hp
  go_enter Try.func112, Try.ntmps112
  go_wp2_with fail
  clear hrun
  go_loopw [12] (fun v12 wr => ∃ i : Nat, i ≤ l.length ∧ v12 = .int .i64 (i : Int) ∧ PgV wr B q p vm { P with is_ := setAll (l.take i) zeros4096 } ∧ Mod (fun k => k = q) w wr ∧ IntsAt wr a l) (fun v12 _ => l.length - (intOf v12).toNat)
  case atStart => exact ⟨0, Nat.zero_le _, rfl, HP1.out, HM1.out, HL1.out⟩
  case round =>
    obtain ⟨i, hi, rfl, hp, hm, hl⟩ := hrel
    by_cases hlt : i < l.length
    · have hlt' : (i : Int) < (l.length : Int) := by omega
      have hne : l ≠ [] := by intro e; rw [e] at hlt; exact absurd hlt (Nat.not_lt_zero _)
      obtain ⟨b, off, rfl, hc⟩ := hl hne
      have hci := hc i hlt
      obtain ⟨x, hx⟩ : ∃ x, x = l[i] := ⟨_, rfl⟩
      rw [← hx] at hci
      obtain ⟨h0, h1⟩ := HALL.out x (hx ▸ List.getElem_mem _)
      obtain ⟨m, rfl⟩ : ∃ m : Nat, x = (m : Int) := ⟨x.toNat, by omega⟩
      have hm4 : m < 4096 := by omega
      have hcm := hp.is_cell m hm4
      have hfz := thaw_of (i := 3 + m) hp.at_
      have hset := hp.setIs m hm4 1
      have hmq : Mod (fun k => k = q) wr (wr.setCell ⟨q, 3 + m, none⟩ (byteV 1)) := Mod.setCell _ _ _ rfl
      have hl2 := hl.mod hmq HLA.out
      have hst : setAll (l.take (i + 1)) zeros4096 = (setAll (l.take i) zeros4096).set m 1 := by
        rw [List.take_succ_eq_append_getElem hlt, setAll_snoc, ← hx]; rfl
      have hres : PgV (wr.setCell ⟨q, 3 + m, none⟩ (byteV 1)) B q p vm { P with is_ := setAll (l.take (i + 1)) zeros4096 } ∧ Mod (fun k => k = q) w (wr.setCell ⟨q, 3 + m, none⟩ (byteV 1)) ∧ IntsAt (wr.setCell ⟨q, 3 + m, none⟩ (byteV 1)) (some ⟨b, off, none⟩) l := ⟨by rw [hst]; exact hset, hm.trans' hmq, hl2⟩
      generalize (setAll (l.take i) zeros4096)[m]'_ = cx at hcm
      have HRES := Lib.hid hres
      have hmi : (0 : Int) ≤ (m : Int) := by omega
      clear hres hst hl2 hmq hset hp hm hl hc hx hne
      go_wp2_with fail
      go_roundw
      case rel => exact ⟨i + 1, by omega, by go_num, HRES.out⟩
      case measure => simp [intOf]; omega
    · obtain rfl : i = l.length := by omega
      rw [List.take_length] at hp
      have HP := Lib.hid hp
      have HM := Lib.hid hm
      clear hp hm hl
      go_wp2
      go_end0
      exact ⟨rfl, HP.out, HM.out⟩
end Go.Proofs.Ytdinnkacilgmmaa
