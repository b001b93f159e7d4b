/- From the form to what a walk reads: rows of byte rows, slices of bools, the scripts of the journal and the pager. -/
import Derived.Test.YtdinnkacilgmmaaLift3
import Derived.Test.YtdinnkacilgmmaaRowsB
namespace Go.Proofs.Ytdinnkacilgmmaa
open Go.ChangeShapes Go.WideShapes Go.ChangeAt Go.RowKit

/-- rows of bytes that came in -/
def RdBs (W : World) (v : Value) (ls : List (List UInt8)) : Prop := ∃ a cap, v = .slice a ls.length cap ∧ RdBB W a ls ∧ ls.length ≤ 140737488351232 ∧ ∀ l ∈ ls, l.length ≤ 140737488351232
/-- what a slice of bools reads as -/
def BoolsAt (w : World) (a : Option Addr) (l : List Bool) : Prop := l ≠ [] → ∃ b off, a = some ⟨b, off, none⟩ ∧ ∀ j (h : j < l.length), w.cell? ⟨b, off + j, none⟩ = some (.bool l[j])
def RdT (W : World) (v : Value) (l : List Bool) : Prop := ∃ a cap, v = .slice a l.length cap ∧ BoolsAt W a l ∧ l.length ≤ 140737488351232

section
variable {H : Type} {enc : TypeId × Value → H} {W : World}

theorem cells22 : Try.prog.cellsOf 22 = 1 := by kernel_rfl
theorem bytes22 : Try.prog.bytesOf 22 = 24 := by kernel_rfl
theorem cells4 : Try.prog.cellsOf 4 = 1 := by kernel_rfl
theorem bytes4 : Try.prog.bytesOf 4 = 1 := by kernel_rfl

theorem rd_byteses {v : Value} {d : DataW H} {p : List MemPlace} (hv : ∃ a len cap, v = .slice a len cap) (h : DataW.Trod enc Try.prog W 0 (fun _ => true) true 66 v d p) (hw : ∀ n ∈ d.weights Try.prog 66, n ≤ reachBytes) : ∃ ls, RdBs W v ls := by
  obtain ⟨a, len, cap, rfl⟩ := hv
  obtain ⟨fuel, hf⟩ := h
  rcases Deep.open_slice Try.underlying66 hf with ⟨hcs, _⟩ | ⟨x, len', cap', m, n, Dt, Pl, hcs, -, hl, -, hmm, hx, hel⟩
  · simp [Value.cells] at hcs
    obtain ⟨rfl, rfl, rfl⟩ := hcs
    exact ⟨[], none, 0, rfl, RdBB.nil _ _, by simp, fun l hl => by cases hl⟩
  · simp [Value.cells] at hcs
    obtain ⟨rfl, rfl, rfl⟩ := hcs
    simp only [if_true] at hmm
    obtain rfl := hmm
    have hd := congrArg Prod.fst hx
    simp only at hd
    subst hd
    simp only [DataW.weights, Try.underlying66] at hw
    have hw0 := hw _ List.mem_cons_self
    rw [bytes22] at hw0
    have hlen : len ≤ 140737488351232 := by simp [reachBytes] at hw0; omega
    have key : ∀ i, i < len → ∃ o : Value × List UInt8, W.cells? 0 (x.add i) 1 = some [o.1] ∧ SlB W o.1 o.2 ∧ o.2.length ≤ 140737488351232 := by
      intro i hi
      obtain ⟨cs, h1, h2⟩ := hel i (by omega)
      rw [cells22, Nat.mul_one] at h1
      obtain ⟨ab, lb, cb, e2⟩ := slice_shape Try.underlying22 h2
      subst e2
      obtain ⟨b, ab', cb', eb, hb1, hb2, hb3, -⟩ := rd_bytes (enc := enc) (W := W) (v := .slice ab lb cb) ⟨_, _, _, rfl⟩ ⟨n, by simpa [Value.cells] using h2⟩ (fun q hq => hw q (List.mem_cons_of_mem _ (List.mem_append_left _ (weightsAll_mem (List.mem_map.2 ⟨i, List.mem_range.2 hi, rfl⟩) hq))))
      exact ⟨(.slice ab lb cb, b), h1, ⟨ab', cb', eb, hb1, hb2⟩, hb3⟩
    obtain ⟨l, hll, hq⟩ := exists_list len key
    refine ⟨l.map (·.2), some x, _, by rw [List.length_map, hll], ⟨l.map (·.1), by simp, fun hne => ?_, fun i hi hi2 => ?_⟩, by rw [List.length_map]; omega, fun y hy => ?_⟩
    · have hl0 : 0 < l.length := by
        rw [← List.length_map (f := (·.1))]
        exact List.length_pos_iff.2 hne
      have cell : ∀ i (hi : i < l.length), W.cell? (x.add i) = some l[i].1 := fun i hi => by
        obtain ⟨h1, -⟩ := hq i hi
        obtain ⟨-, h2, h3⟩ := World.cells?_some h1
        have := h3 0 (by omega)
        have e : (x.add i).add 0 = x.add i := by generalize x.add i = y; simp [Addr.add]
        rw [e] at this
        simpa using this
      have hsp : x.spot = none := by simpa [Addr.add] using World.cell?_spot (cell 0 hl0)
      obtain ⟨b, off, sp⟩ := x
      simp only at hsp
      subst hsp
      refine ⟨b, off, rfl, fun j hj => ?_⟩
      rw [List.length_map] at hj
      have := cell j hj
      rw [add_none_spot this (.inr rfl)] at this
      simpa using this
    · simp only [List.getElem_map]
      exact (hq i (by simpa using hi)).2.1
    · obtain ⟨o, ho, rfl⟩ := List.mem_map.1 hy
      obtain ⟨i, hi, rfl⟩ := List.getElem_of_mem ho
      exact (hq i hi).2.2

theorem rd_bools {v : Value} {d : DataW H} {p : List MemPlace} (hv : ∃ a len cap, v = .slice a len cap) (h : DataW.Trod enc Try.prog W 0 (fun _ => true) true 75 v d p) (hw : ∀ n ∈ d.weights Try.prog 75, n ≤ reachBytes) : ∃ l, RdT W v l := by
  obtain ⟨a, len, cap, rfl⟩ := hv
  obtain ⟨fuel, hf⟩ := h
  rcases Deep.open_slice Try.underlying75 hf with ⟨hcs, _⟩ | ⟨x, len', cap', m, n, Dt, Pl, hcs, -, hl, -, hmm, hx, hel⟩
  · simp [Value.cells] at hcs
    obtain ⟨rfl, rfl, rfl⟩ := hcs
    exact ⟨[], none, 0, rfl, fun h => absurd rfl h, by simp⟩
  · simp [Value.cells] at hcs
    obtain ⟨rfl, rfl, rfl⟩ := hcs
    simp only [if_true] at hmm
    obtain rfl := hmm
    have hd := congrArg Prod.fst hx
    simp only at hd
    subst hd
    simp only [DataW.weights, Try.underlying75] at hw
    have hw0 := hw _ List.mem_cons_self
    rw [bytes4] at hw0
    have hlen : len ≤ 140737488351232 := by simp [reachBytes] at hw0; omega
    have key : ∀ i, i < len → ∃ o : Bool, W.cells? 0 (x.add i) 1 = some [.bool o] := by
      intro i hi
      obtain ⟨cs, h1, h2⟩ := hel i (by omega)
      rw [cells4, Nat.mul_one] at h1
      obtain ⟨b, e2, -⟩ := DataW.trod_bool Try.underlying4 h2
      subst e2
      exact ⟨b, h1⟩
    obtain ⟨l, hll, hq⟩ := exists_list len key
    refine ⟨l, some x, _, by rw [hll], fun hne => ?_, by omega⟩
    have hl0 : 0 < l.length := List.length_pos_iff.2 hne
    have cell : ∀ i (hi : i < l.length), W.cell? (x.add i) = some (.bool l[i]) := fun i hi => by
      have h1 := hq i hi
      obtain ⟨-, h2, h3⟩ := World.cells?_some h1
      have := h3 0 (by omega)
      have e : (x.add i).add 0 = x.add i := by generalize x.add i = y; simp [Addr.add]
      rw [e] at this
      simpa using this
    have hsp : x.spot = none := by simpa [Addr.add] using World.cell?_spot (cell 0 hl0)
    obtain ⟨b, off, sp⟩ := x
    simp only at hsp
    subst hsp
    refine ⟨b, off, rfl, fun j hj => ?_⟩
    have := cell j hj
    rw [add_none_spot this (.inr rfl)] at this
    exact this
end
end Go.Proofs.Ytdinnkacilgmmaa
