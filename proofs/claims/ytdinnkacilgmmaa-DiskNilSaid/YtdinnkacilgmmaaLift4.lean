/- From the form to what a walk reads: one operation handed over by value. -/
import Derived.Test.YtdinnkacilgmmaaLift3
import Derived.Test.YtdinnkacilgmmaaDiskNil
namespace Go.Proofs.Ytdinnkacilgmmaa
open Go.ChangeShapes Go.WideShapes Go.ChangeAt Go.RowKit
section
variable {H : Type} {enc : TypeId × Value → H} {W : World}

set_option maxRecDepth 100000 in
theorem rd_op {base : Nat} {v : Value} {d : DataW H} {p : List MemPlace} (hv : Value.okWide Try.prog W .any base 45 v) (h : DataW.Trod enc Try.prog W 0 (fun _ => true) true 45 v d p) (hw : ∀ n ∈ d.weights Try.prog 45, n ≤ reachBytes) :
    ∃ o : OpV, ∃ cs, v = .agg cs ∧ OpIs W cs.toList o := by
  obtain ⟨cs, rfl, -⟩ := okWide_struct Try.underlying45 hv
  obtain ⟨fuel, hf⟩ := h
  obtain ⟨o, ho⟩ := rd_op_cells (y := (d, p)) hf hw
  exact ⟨o, cs, rfl, by simpa [Value.cells] using ho⟩

theorem disknil_all (W : World) {v : Value} {o : OpV} (h : ∃ cs, v = .agg cs ∧ OpIs W cs.toList o) :
    Calls Try.prog 13 #[v] W fun e w' => e = .returned (.bool true) ∧ Below W.heap.size W w' := by
  obtain ⟨cs, rfl, ⟨ab, cb, al, cl, e, -⟩⟩ := h
  obtain rfl : cs = #[.int .i64 o.kind, .int .i64 o.n, .slice ab o.b.length cb, .slice al o.l.length cl] := by
    apply Array.toList_inj.1; simpa using e
  exact disknil_walk W _ _ _ _ _ _ _ _
end
end Go.Proofs.Ytdinnkacilgmmaa
