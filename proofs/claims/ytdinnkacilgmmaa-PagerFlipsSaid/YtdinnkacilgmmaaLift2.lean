/- reading bytes of a bounded bulk -/
import Derived.Test.YtdinnkacilgmmaaLift
import Derived.Test.YtdinnkacilgmmaaBulk
import Derived.JoinedCond
import Derived.Deep.CondSized
namespace Go.Proofs.Ytdinnkacilgmmaa
open Go.ChangeShapes Go.WideShapes Go.ChangeAt Go.RowKit
section
variable {H : Type} {enc : TypeId × Value → H} {W : World}

theorem rd_bytes_up {v : Value} {d : DataW H} {p : List MemPlace} (hv : ∃ a len cap, v = .slice a len cap) (h : DataW.Trod enc Try.prog W 0 (fun _ => true) true 22 v d p) (hw : ∀ n ∈ d.weights Try.prog 22, n ≤ reachBytes) :
    ∃ l, RdB W v l ∧ l.length ≤ Rows.uptoBulk d := by
  obtain ⟨l, hl⟩ := rd_bytes hv h hw
  refine ⟨l, hl, ?_⟩
  obtain ⟨a, cap, rfl, -⟩ := hl
  obtain ⟨fuel, hf⟩ := h
  rcases open_ints Try.underlying22 Try.underlying5 cells5 hf with ⟨hcs, _⟩ | ⟨x, len, c, zs, hcs, _, hl, hm, hz, hx, hcell, hwz⟩
  · simp [Value.cells] at hcs
    have h1 := hcs.2.1
    simp [h1]
  · simp [Value.cells] at hcs
    obtain ⟨rfl, rfl, rfl⟩ := hcs
    have e := congrArg Prod.fst hx
    simp only at e
    subst e
    simp at hz
    refine Nat.le_trans ?_ (Nat.le_trans (Nat.le_of_lt (Nat.lt_succ_self _)) (bulks.slice_elems _ _))
    refine Nat.le_trans ?_ (bulks.length_le _)
    simp [lits, hz]
    omega
end
end Go.Proofs.Ytdinnkacilgmmaa
