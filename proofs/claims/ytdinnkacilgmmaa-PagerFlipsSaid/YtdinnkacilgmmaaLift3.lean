/- From the form to what a walk reads: slices of numbers, operations of a disk's script, scripts. -/
import Derived.Test.YtdinnkacilgmmaaLift2
import Derived.Test.YtdinnkacilgmmaaDiskZ
import Derived.Lib.SmallJoins
import Derived.Deep.Slices
namespace Go.Proofs.Ytdinnkacilgmmaa
open Go.ChangeShapes Go.WideShapes Go.ChangeAt Go.RowKit
section
variable {H : Type} {enc : TypeId × Value → H} {W : World}

theorem cells3 : Try.prog.cellsOf 3 = 1 := by kernel_rfl
theorem bytes3 : Try.prog.bytesOf 3 = 8 := by kernel_rfl
theorem cells45 : Try.prog.cellsOf 45 = 4 := by kernel_rfl
theorem one45 : Try.prog.cellsOf 3 = 1 ∧ Try.prog.cellsOf 22 = 1 ∧ Try.prog.cellsOf 39 = 1 := by refine ⟨?_, ?_, ?_⟩ <;> kernel_rfl
theorem bytes45 : Try.prog.bytesOf 45 = 64 := by kernel_rfl

/-- a slice of numbers that is read -/
def RdL (W : World) (v : Value) (l : List Int) : Prop := ∃ a cap, v = .slice a l.length cap ∧ IntsAt W a l ∧ l.length ≤ 140737488351232

theorem intsAt_ints {x : Addr} {zs : List Int} {len : Nat} (hl : len ≤ zs.length) (hc : ∀ i, i < zs.length → W.cell? (x.add i) = some (.int .i64 (zs.getD i 0))) (hx : x.spot = none) : IntsAt W (some x) (zs.take len) := by
  intro _
  refine ⟨x.block, x.off, by cases x; simp at hx; subst hx; rfl, fun j hj => ?_⟩
  have hj2 : j < zs.length := by simp at hj; omega
  have h1 := hc j hj2
  rw [add_none_spot h1 (.inr hx)] at h1
  rw [h1]
  simp [hj2]

theorem rd_ints {v : Value} {d : DataW H} {p : List MemPlace} (hv : ∃ a len cap, v = .slice a len cap) (h : DataW.Trod enc Try.prog W 0 (fun _ => true) true 39 v d p) (hw : ∀ n ∈ d.weights Try.prog 39, n ≤ reachBytes) : ∃ l, RdL W v l := by
  obtain ⟨a, len, cap, rfl⟩ := hv
  obtain ⟨fuel, hf⟩ := h
  rcases open_ints Try.underlying39 Try.underlying3 cells3 hf with ⟨hcs, _⟩ | ⟨x, l, c, zs, hcs, _, hl, hm, hz, hx, hcell, hwz⟩
  · simp [Value.cells] at hcs
    obtain ⟨rfl, rfl, rfl⟩ := hcs
    exact ⟨[], none, 0, rfl, fun h => absurd rfl h, by simp⟩
  · simp [Value.cells] at hcs
    obtain ⟨rfl, rfl, rfl⟩ := hcs
    simp at hz
    by_cases hz0 : zs.length = 0
    · have hl0 : len = 0 := by omega
      subst hl0
      exact ⟨[], _, cap, rfl, fun h => absurd rfl h, by simp⟩
    have hsp : x.spot = none := by simpa [Addr.add] using World.cell?_spot (hcell 0 (by omega))
    refine ⟨zs.take len, some x, cap, by simp [hz, Nat.min_eq_left hl], intsAt_ints (by omega) hcell hsp, ?_⟩
    have e := congrArg Prod.fst hx
    simp only at e
    subst e
    simp only [DataW.weights, Try.underlying39] at hw
    have := hw _ List.mem_cons_self
    rw [bytes3] at this
    simp [lits, reachBytes] at this ⊢
    omega

theorem slice_shape {t e : TypeId} {fuel : Nat} {cs : List Value} {y : DataW H × List MemPlace} (ht : Try.prog.underlying t = some (.slice e)) (hf : DataW.trod enc Try.prog W 0 (fun _ => true) true fuel t cs = some y) :
    ∃ a l c, cs = [.slice a l c] := Joins.slice_form ht hf

/-- what an operation's four cells hold -/
structure OpIs (W : World) (cs : List Value) (o : OpV) : Prop where
  is : ∃ (ab : Option Addr) (cb : Nat) (al : Option Addr) (cl : Nat), cs = [.int .i64 o.kind, .int .i64 o.n, .slice ab o.b.length cb, .slice al o.l.length cl] ∧
    BytesAt W ab o.b ∧ (ab = none → cb = 0) ∧ IntsAt W al o.l ∧ o.b.length ≤ 140737488351232 ∧ o.l.length ≤ 140737488351232

set_option maxRecDepth 10000 in
theorem rd_op_cells {fuel : Nat} {cs : List Value} {y : DataW H × List MemPlace} (h : DataW.trod enc Try.prog W 0 (fun _ => true) true fuel 45 cs = some y) (hw : ∀ m ∈ y.1.weights Try.prog 45, m ≤ reachBytes) :
    ∃ o : OpV, OpIs W cs o := by
  obtain ⟨y0, y1, y2, y3, n, rfl, hlen, h0, h1, h2, h3⟩ := Joins.trod_struct4 Try.underlying45 h
  rw [cells45] at hlen
  match cs, hlen with
  | [c0, c1, c2, c3], _ =>
    simp only [one45.1, one45.2.1, one45.2.2, List.drop_zero, List.drop_succ_cons, List.take_succ_cons, List.take_zero] at h0 h1 h2 h3
    obtain ⟨k, e0, rfl, -⟩ := DataW.trod_int Try.underlying3 h0
    obtain ⟨m, e1, rfl, -⟩ := DataW.trod_int Try.underlying3 h1
    obtain ⟨ab, lb, cb, e2⟩ := slice_shape Try.underlying22 h2
    obtain ⟨al, ll, cl, e3⟩ := slice_shape Try.underlying39 h3
    simp only [List.cons.injEq, and_true] at e0 e1 e2 e3
    subst e0 e1 e2 e3
    simp only [DataW.weights, Try.underlying45, List.map, DataW.weightsEach, List.append_nil, List.nil_append] at hw
    obtain ⟨b, ab', cb', eb, hb1, hb2, hb3, -⟩ := rd_bytes (enc := enc) (W := W) (v := .slice ab lb cb) ⟨_, _, _, rfl⟩ ⟨n, by simpa [Value.cells] using h2⟩ (fun q hq => hw q (List.mem_append_left _ hq))
    obtain ⟨l, al', cl', el, hl1, hl2⟩ := rd_ints (enc := enc) (W := W) (v := .slice al ll cl) ⟨_, _, _, rfl⟩ ⟨n, by simpa [Value.cells] using h3⟩ (fun q hq => hw q (List.mem_append_right _ hq))
    cases eb
    cases el
    exact ⟨⟨k, m, b, l⟩, ⟨_, _, _, _, rfl, hb1, hb2, hl1, hb3, hl2⟩⟩

theorem weightsAll_mem {e : TypeId} {d : DataW H} {l : List (DataW H)} (h : d ∈ l) {q : Nat} (hq : q ∈ d.weights Try.prog e) : q ∈ DataW.weightsAll Try.prog e l := by
  induction l with
  | nil => cases h
  | cons x r ih =>
    simp only [DataW.weightsAll]
    rcases List.mem_cons.1 h with rfl | h
    · exact List.mem_append_left _ hq
    · exact List.mem_append_right _ (ih h)

/-- what a script's slice reads as -/
def OpsAt (W : World) (a : Option Addr) (l : List OpV) : Prop :=
  l ≠ [] → ∃ b off, a = some ⟨b, off, none⟩ ∧ ∀ j (h : j < l.length), ∃ c0 c1 c2 c3, W.cell? ⟨b, off + j * 4, none⟩ = some c0 ∧ W.cell? ⟨b, off + j * 4 + 1, none⟩ = some c1 ∧
    W.cell? ⟨b, off + j * 4 + 2, none⟩ = some c2 ∧ W.cell? ⟨b, off + j * 4 + 3, none⟩ = some c3 ∧ OpIs W [c0, c1, c2, c3] l[j]

/-- a script that came in -/
def RdO (W : World) (v : Value) (l : List OpV) : Prop := ∃ a cap, v = .slice a l.length cap ∧ OpsAt W a l ∧ l.length ≤ 140737488351232

theorem exists_list {α : Type} {Q : Nat → α → Prop} : ∀ n, (∀ i, i < n → ∃ x, Q i x) → ∃ l : List α, l.length = n ∧ ∀ i (h : i < l.length), Q i l[i]
  | 0, _ => ⟨[], rfl, fun i h => by simp at h⟩
  | n + 1, h => by
    obtain ⟨l, hl, hq⟩ := exists_list n (fun i hi => h i (by omega))
    obtain ⟨x, hx⟩ := h n (by omega)
    refine ⟨l ++ [x], by simp [hl], fun i hi => ?_⟩
    by_cases hin : i < l.length
    · rw [List.getElem_append_left hin]; exact hq i hin
    · have : i = n := by simp at hi; omega
      subst this
      rw [List.getElem_append_right (by omega)]
      simpa [hl] using hx

set_option maxRecDepth 10000 in
theorem rd_ops3 {v : Value} {d : DataW H} {p : List MemPlace} (hv : ∃ a len cap, v = .slice a len cap) (h : DataW.Trod enc Try.prog W 0 (fun _ => true) true 38 v d p) (hw : ∀ n ∈ d.weights Try.prog 38, n ≤ reachBytes) : ∃ l, RdO W v l := by
  obtain ⟨a, len, cap, rfl⟩ := hv
  obtain ⟨fuel, hf⟩ := h
  rcases Deep.open_slice Try.underlying38 hf with ⟨hcs, _⟩ | ⟨x, len', cap', m, n, Dt, Pl, hcs, -, hl, -, hmm, hx, hel⟩
  · simp [Value.cells] at hcs
    obtain ⟨rfl, rfl, rfl⟩ := hcs
    exact ⟨[], none, 0, rfl, fun h => absurd rfl h, by simp⟩
  · simp [Value.cells] at hcs
    obtain ⟨rfl, rfl, rfl⟩ := hcs
    simp only [if_true] at hmm
    obtain rfl := hmm
    have hd := congrArg Prod.fst hx
    simp only at hd
    subst hd
    simp only [DataW.weights, Try.underlying38] at hw
    have hw0 := hw _ List.mem_cons_self
    rw [bytes45] at hw0
    have hlen : len ≤ 140737488351232 := by simp [reachBytes] at hw0; omega
    have key : ∀ i, i < len → ∃ o : OpV, ∃ cs, W.cells? 0 (x.add (i * 4)) 4 = some cs ∧ OpIs W cs o := by
      intro i hi
      obtain ⟨cs, h1, h2⟩ := hel i (by omega)
      rw [cells45] at h1
      obtain ⟨o, ho⟩ := rd_op_cells h2 (fun q hq => hw q (List.mem_cons_of_mem _ (List.mem_append_left _ (weightsAll_mem (List.mem_map.2 ⟨i, List.mem_range.2 hi, rfl⟩) hq))))
      exact ⟨o, cs, h1, ho⟩
    obtain ⟨l, hll, hq⟩ := exists_list len key
    refine ⟨l, some x, _, by rw [hll], fun hne => ?_, by omega⟩
    have hl0 : 0 < l.length := List.length_pos_iff.2 hne
    have hsp : x.spot = none := by
      obtain ⟨cs, h1, o4⟩ := hq 0 hl0
      obtain ⟨-, h2, h3⟩ := World.cells?_some h1
      have := h3 0 (by omega)
      rw [show cs[0]? = some cs[0] from List.getElem?_eq_getElem (by omega)] at this
      simpa [Addr.add] using World.cell?_spot this
    obtain ⟨b, off, sp⟩ := x
    simp only at hsp
    subst hsp
    refine ⟨b, off, rfl, fun j hj => ?_⟩
    obtain ⟨cs, h1, o4⟩ := hq j hj
    obtain ⟨-, h2, h3⟩ := World.cells?_some h1
    match cs, h2 with
    | [c0, c1, c2, c3], _ =>
      have k0 := h3 0 (by omega)
      have k1 := h3 1 (by omega)
      have k2 := h3 2 (by omega)
      have k3 := h3 3 (by omega)
      simp only [Addr.add_mid, Nat.add_zero] at k0 k1 k2 k3
      exact ⟨c0, c1, c2, c3, k0, k1, k2, k3, o4⟩
end
end Go.Proofs.Ytdinnkacilgmmaa
