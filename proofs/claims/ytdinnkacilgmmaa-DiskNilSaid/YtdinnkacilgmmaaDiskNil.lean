/- DiskNil: the walk. -/
import Derived.Test.YtdinnkacilgmmaaDisk8
namespace Go.Proofs.Ytdinnkacilgmmaa
open Go.RowKit

set_option maxHeartbeats 1000000 in
set_option maxRecDepth 100000 in
theorem disknil_walk (w : World) (k n : Int) (ab : Option Addr) (lb cb : Nat) (al : Option Addr) (ll cl : Nat) :
    Calls Try.prog 13 #[.agg #[.int .i64 k, .int .i64 n, .slice ab lb cb, .slice al ll cl]] w fun e w' => e = .returned (.bool true) ∧ Below w.heap.size w w' := by
  go_enter Try.func13, Try.ntmps13
  go_wp2_with (first | (go_at_call 35; refine (known3_any _).mono ?_; rintro e w3 ⟨rfl, hb3⟩) | go_in)
  go_ret
  exact ⟨rfl, ((Below.refl _ _).alloc (Nat.le_refl _) _).next (Nat.le_refl _) hb3⟩
end Go.Proofs.Ytdinnkacilgmmaa
