/- From the form to what a walk reads: the journal's scripts. -/
import Derived.Test.YtdinnkacilgmmaaLift5
namespace Go.Proofs.Ytdinnkacilgmmaa
open Go.ChangeShapes Go.WideShapes Go.ChangeAt Go.RowKit
section
variable {H : Type} {enc : TypeId × Value → H} {W : World}

theorem cells89 : Try.prog.cellsOf 89 = 4 := by kernel_rfl
theorem bytes89 : Try.prog.bytesOf 89 = 64 := by kernel_rfl
theorem one89 : Try.prog.cellsOf 3 = 1 ∧ Try.prog.cellsOf 2 = 1 ∧ Try.prog.cellsOf 22 = 1 ∧ Try.prog.cellsOf 39 = 1 := by refine ⟨?_, ?_, ?_, ?_⟩ <;> kernel_rfl

set_option maxRecDepth 10000 in
theorem rd_op4_cells {fuel : Nat} {cs : List Value} {y : DataW H × List MemPlace} (h : DataW.trod enc Try.prog W 0 (fun _ => true) true fuel 89 cs = some y) (hw : ∀ m ∈ y.1.weights Try.prog 89, m ≤ reachBytes) :
    ∃ o : OpV, OpIs W cs o := by
  obtain ⟨y0, y1, y2, y3, n, rfl, hlen, h0, h1, h2, h3⟩ := Joins.trod_struct4 Try.underlying89 h
  rw [cells89] at hlen
  match cs, hlen with
  | [c0, c1, c2, c3], _ =>
    simp only [one89.1, one89.2.1, one89.2.2.1, one89.2.2.2, List.drop_zero, List.drop_succ_cons, List.take_succ_cons, List.take_zero] at h0 h1 h2 h3
    obtain ⟨k, e0, rfl, -⟩ := DataW.trod_int Try.underlying3 h0
    obtain ⟨m, e1, rfl, -⟩ := DataW.trod_int Try.underlying2 h1
    obtain ⟨ab, lb, cb, e2⟩ := slice_shape Try.underlying22 h2
    obtain ⟨al, ll, cl, e3⟩ := slice_shape Try.underlying39 h3
    simp only [List.cons.injEq, and_true] at e0 e1 e2 e3
    subst e0 e1 e2 e3
    simp only [DataW.weights, Try.underlying89, List.map, DataW.weightsEach, List.append_nil, List.nil_append] at hw
    obtain ⟨b, ab', cb', eb, hb1, hb2, hb3, -⟩ := rd_bytes (enc := enc) (W := W) (v := .slice ab lb cb) ⟨_, _, _, rfl⟩ ⟨n, by simpa [Value.cells] using h2⟩ (fun q hq => hw q (List.mem_append_left _ hq))
    obtain ⟨l, al', cl', el, hl1, hl2⟩ := rd_ints (enc := enc) (W := W) (v := .slice al ll cl) ⟨_, _, _, rfl⟩ ⟨n, by simpa [Value.cells] using h3⟩ (fun q hq => hw q (List.mem_append_right _ hq))
    cases eb
    cases el
    exact ⟨⟨k, m, b, l⟩, ⟨_, _, _, _, rfl, hb1, hb2, hl1, hb3, hl2⟩⟩

set_option maxRecDepth 10000 in
theorem rd_ops4 {v : Value} {d : DataW H} {p : List MemPlace} (hv : ∃ a len cap, v = .slice a len cap) (h : DataW.Trod enc Try.prog W 0 (fun _ => true) true 87 v d p) (hw : ∀ n ∈ d.weights Try.prog 87, n ≤ reachBytes) : ∃ l, RdO W v l := by
  obtain ⟨a, len, cap, rfl⟩ := hv
  obtain ⟨fuel, hf⟩ := h
  rcases Deep.open_slice Try.underlying87 hf with ⟨hcs, _⟩ | ⟨x, len', cap', m, n, Dt, Pl, hcs, -, hl, -, hmm, hx, hel⟩
  · simp [Value.cells] at hcs
    obtain ⟨rfl, rfl, rfl⟩ := hcs
    exact ⟨[], none, 0, rfl, fun h => absurd rfl h, by simp⟩
  · simp [Value.cells] at hcs
    obtain ⟨rfl, rfl, rfl⟩ := hcs
    simp only [if_true] at hmm
    obtain rfl := hmm
    have hd := congrArg Prod.fst hx
    simp only at hd
    subst hd
    simp only [DataW.weights, Try.underlying87] at hw
    have hw0 := hw _ List.mem_cons_self
    rw [bytes89] at hw0
    have hlen : len ≤ 140737488351232 := by simp [reachBytes] at hw0; omega
    have key : ∀ i, i < len → ∃ o : OpV, ∃ cs, W.cells? 0 (x.add (i * 4)) 4 = some cs ∧ OpIs W cs o := by
      intro i hi
      obtain ⟨cs, h1, h2⟩ := hel i (by omega)
      rw [cells89] at h1
      obtain ⟨o, ho⟩ := rd_op4_cells h2 (fun q hq => hw q (List.mem_cons_of_mem _ (List.mem_append_left _ (weightsAll_mem (List.mem_map.2 ⟨i, List.mem_range.2 hi, rfl⟩) hq))))
      exact ⟨o, cs, h1, ho⟩
    obtain ⟨l, hll, hq⟩ := exists_list len key
    refine ⟨l, some x, _, by rw [hll], fun hne => ?_, by omega⟩
    have hl0 : 0 < l.length := List.length_pos_iff.2 hne
    have hsp : x.spot = none := by
      obtain ⟨cs, h1, o4⟩ := hq 0 hl0
      obtain ⟨-, h2, h3⟩ := World.cells?_some h1
      have := h3 0 (by omega)
      rw [show cs[0]? = some cs[0] from List.getElem?_eq_getElem (by omega)] at this
      simpa [Addr.add] using World.cell?_spot this
    obtain ⟨b, off, sp⟩ := x
    simp only at hsp
    subst hsp
    refine ⟨b, off, rfl, fun j hj => ?_⟩
    obtain ⟨cs, h1, o4⟩ := hq j hj
    obtain ⟨-, h2, h3⟩ := World.cells?_some h1
    match cs, h2 with
    | [c0, c1, c2, c3], _ =>
      have k0 := h3 0 (by omega)
      have k1 := h3 1 (by omega)
      have k2 := h3 2 (by omega)
      have k3 := h3 3 (by omega)
      simp only [Addr.add_mid, Nat.add_zero] at k0 k1 k2 k3
      exact ⟨c0, c1, c2, c3, k0, k1, k2, k3, o4⟩
end
end Go.Proofs.Ytdinnkacilgmmaa
