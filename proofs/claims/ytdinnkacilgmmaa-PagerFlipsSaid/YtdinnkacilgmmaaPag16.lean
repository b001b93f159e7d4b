/- Blocks as things; what the pager's laws share. -/
import Derived.Test.YtdinnkacilgmmaaPLaw0
import Derived.Test.YtdinnkacilgmmaaLift7
namespace Go.Proofs.Ytdinnkacilgmmaa
open Go.RowKit

/-- a block that is as it was laid -/
def BlkT (B k : Nat) (o : Obj) : Thg B := ⟨fun w F => B ≤ k ∧ w.heap[k]? = some o ∧ F = fun j => j = k, fun {w F} h j hj => by obtain ⟨h1, h2, rfl⟩ := h; subst hj; exact ⟨h1, lt_of_block h2⟩,
  fun {G w w' F} h hm hF => by obtain ⟨h1, h2, rfl⟩ := h; exact ⟨h1, hm.obj h2 (hF k rfl), rfl⟩⟩
theorem Apart.lay {w0 w : World} {B : Nat} {Ts : List (Thg B)} (h : Apart w0 B Ts w) (o : Obj) : Apart w0 B (Ts ++ [BlkT B w.heap.size o]) (w.alloc o) :=
  h.more (BlkT B w.heap.size o) (Mod.alloc _ _ _) ⟨h.le, heap_alloc_new w o, rfl⟩ (fun k hk => by rw [hk]; exact Nat.le_refl _)
theorem Apart.blk {w0 w : World} {B : Nat} {Ts : List (Thg B)} (h : Apart w0 B Ts w) (i : Nat) {k : Nat} {o : Obj} (hi : Ts[i]? = some (BlkT B k o)) : w.heap[k]? = some o := by
  obtain ⟨F, -, h2, -⟩ := h.get i hi
  exact h2
def opWO (o : OpW) (ab : Option Addr) (cb : Nat) (al : Option Addr) (cl : Nat) : Obj := .cells #[.int .i64 o.kind, .int .i64 o.n, .int .i64 o.m, .slice ab o.b.length cb, .slice al o.l.length cl] 102
theorem Apart.opCells {w0 w : World} {B : Nat} {Ts : List (Thg B)} (h : Apart w0 B Ts w) (i : Nat) {k : Nat} {o : OpW} {ab : Option Addr} {cb : Nat} {al : Option Addr} {cl : Nat} (hi : Ts[i]? = some (BlkT B k (opWO o ab cb al cl))) :
    w.cell? ⟨k, 0, none⟩ = some (.int .i64 o.kind) ∧ w.cell? ⟨k, 1, none⟩ = some (.int .i64 o.n) ∧ w.cell? ⟨k, 2, none⟩ = some (.int .i64 o.m) ∧ w.cell? ⟨k, 3, none⟩ = some (.slice ab o.b.length cb) ∧ w.cell? ⟨k, 4, none⟩ = some (.slice al o.l.length cl) := by
  have hc := fun j => cell_of_row w k j _ 102 (0, 0) (h.blk i hi)
  exact ⟨hc 0, hc 1, hc 2, hc 3, hc 4⟩

theorem empties_zeros (N : Nat) : (⟨0, N, zeros4096, Rt.none, false⟩ : Pgr).empties.length = N := by
  unfold Pgr.empties
  rw [List.filter_eq_self.2 (fun n _ => ?_), List.length_range]
  show (zeros4096.getD n 0 == 0) = true
  rw [zeros4096_get]; rfl
end Go.Proofs.Ytdinnkacilgmmaa
