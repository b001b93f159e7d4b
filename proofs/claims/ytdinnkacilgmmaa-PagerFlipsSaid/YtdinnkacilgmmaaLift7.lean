/- From the form to what a walk reads: the pager's scripts. -/
import Derived.Test.YtdinnkacilgmmaaLift3
import Derived.Test.YtdinnkacilgmmaaSepZ
namespace Go.Proofs.Ytdinnkacilgmmaa
open Go.ChangeShapes Go.WideShapes Go.ChangeAt Go.RowKit

/-- an operation of a pager's script -/
structure OpW where
  kind : Int
  n : Int
  m : Int
  b : List UInt8
  l : List Int
structure OpWIs (W : World) (cs : List Value) (o : OpW) : Prop where
  is : ∃ (ab : Option Addr) (cb : Nat) (al : Option Addr) (cl : Nat), cs = [.int .i64 o.kind, .int .i64 o.n, .int .i64 o.m, .slice ab o.b.length cb, .slice al o.l.length cl] ∧
    BytesAt W ab o.b ∧ (ab = none → cb = 0) ∧ IntsAt W al o.l ∧ o.b.length ≤ 140737488351232 ∧ o.l.length ≤ 140737488351232 ∧ o.b.length ≤ cb
def OpWsAt (W : World) (a : Option Addr) (l : List OpW) : Prop :=
  l ≠ [] → ∃ b off, a = some ⟨b, off, none⟩ ∧ ∀ j (h : j < l.length), ∃ c0 c1 c2 c3 c4, W.cell? ⟨b, off + j * 5, none⟩ = some c0 ∧ W.cell? ⟨b, off + j * 5 + 1, none⟩ = some c1 ∧
    W.cell? ⟨b, off + j * 5 + 2, none⟩ = some c2 ∧ W.cell? ⟨b, off + j * 5 + 3, none⟩ = some c3 ∧ W.cell? ⟨b, off + j * 5 + 4, none⟩ = some c4 ∧ OpWIs W [c0, c1, c2, c3, c4] l[j]
def RdO5 (W : World) (v : Value) (l : List OpW) : Prop := ∃ a cap, v = .slice a l.length cap ∧ OpWsAt W a l ∧ l.length ≤ 140737488351232

section
variable {H : Type} {enc : TypeId × Value → H} {W : World}

theorem cells102 : Try.prog.cellsOf 102 = 5 := by kernel_rfl
theorem bytes102 : Try.prog.bytesOf 102 = 72 := by kernel_rfl
theorem one102 : Try.prog.cellsOf 3 = 1 ∧ Try.prog.cellsOf 2 = 1 ∧ Try.prog.cellsOf 22 = 1 ∧ Try.prog.cellsOf 39 = 1 := by refine ⟨?_, ?_, ?_, ?_⟩ <;> kernel_rfl

theorem trod_struct5 {t : TypeId} {f0 f1 f2 f3 f4 : Field} {fuel : Nat} {cs : List Value} {x : DataW H × List MemPlace} (ht : Try.prog.underlying t = some (.struct #[f0, f1, f2, f3, f4])) (h : DataW.trod enc Try.prog W 0 (fun _ => true) true fuel t cs = some x) :
    ∃ y0 y1 y2 y3 y4 n, x = (.agg [y0.1, y1.1, y2.1, y3.1, y4.1], y0.2 ++ (y1.2 ++ (y2.2 ++ (y3.2 ++ y4.2)))) ∧ cs.length = Try.prog.cellsOf t ∧ DataW.trod enc Try.prog W 0 (fun _ => true) true n f0.type ((cs.drop f0.offset).take (Try.prog.cellsOf f0.type)) = some y0 ∧
      DataW.trod enc Try.prog W 0 (fun _ => true) true n f1.type ((cs.drop f1.offset).take (Try.prog.cellsOf f1.type)) = some y1 ∧ DataW.trod enc Try.prog W 0 (fun _ => true) true n f2.type ((cs.drop f2.offset).take (Try.prog.cellsOf f2.type)) = some y2 ∧
      DataW.trod enc Try.prog W 0 (fun _ => true) true n f3.type ((cs.drop f3.offset).take (Try.prog.cellsOf f3.type)) = some y3 ∧ DataW.trod enc Try.prog W 0 (fun _ => true) true n f4.type ((cs.drop f4.offset).take (Try.prog.cellsOf f4.type)) = some y4 := by
  obtain ⟨xs, n, _, rfl, hl, hlen, hf⟩ := DataW.trod_struct ht h
  match xs, hlen with
  | [y0, y1, y2, y3, y4], _ => exact ⟨y0, y1, y2, y3, y4, n, by simp, hl, by simpa using hf 0 f0 rfl, by simpa using hf 1 f1 rfl, by simpa using hf 2 f2 rfl, by simpa using hf 3 f3 rfl, by simpa using hf 4 f4 rfl⟩

set_option maxRecDepth 10000 in
theorem rd_op5_cells {fuel : Nat} {cs : List Value} {y : DataW H × List MemPlace} (h : DataW.trod enc Try.prog W 0 (fun _ => true) true fuel 102 cs = some y) (hw : ∀ m ∈ y.1.weights Try.prog 102, m ≤ reachBytes) :
    ∃ o : OpW, OpWIs W cs o := by
  obtain ⟨y0, y1, y2, y3, y4, n, rfl, hlen, h0, h1, h2, h3, h4⟩ := trod_struct5 Try.underlying102 h
  rw [cells102] at hlen
  match cs, hlen with
  | [c0, c1, c2, c3, c4], _ =>
    simp only [one102.1, one102.2.1, one102.2.2.1, one102.2.2.2, List.drop_zero, List.drop_succ_cons, List.take_succ_cons, List.take_zero] at h0 h1 h2 h3 h4
    obtain ⟨k, e0, rfl, -⟩ := DataW.trod_int Try.underlying3 h0
    obtain ⟨m, e1, rfl, -⟩ := DataW.trod_int Try.underlying3 h1
    obtain ⟨m2, e4, rfl, -⟩ := DataW.trod_int Try.underlying2 h2
    obtain ⟨ab, lb, cb, e2⟩ := slice_shape Try.underlying22 h3
    obtain ⟨al, ll, cl, e3⟩ := slice_shape Try.underlying39 h4
    simp only [List.cons.injEq, and_true] at e0 e1 e2 e3 e4
    subst e0 e1 e2 e3 e4
    simp only [DataW.weights, Try.underlying102, List.map, DataW.weightsEach, List.append_nil, List.nil_append] at hw
    obtain ⟨b, ab', cb', eb, hb1, hb2, hb3, hb4⟩ := rd_bytes (enc := enc) (W := W) (v := .slice ab lb cb) ⟨_, _, _, rfl⟩ ⟨n, by simpa [Value.cells] using h3⟩ (fun q hq => hw q (List.mem_append_left _ hq))
    obtain ⟨l, al', cl', el, hl1, hl2⟩ := rd_ints (enc := enc) (W := W) (v := .slice al ll cl) ⟨_, _, _, rfl⟩ ⟨n, by simpa [Value.cells] using h4⟩ (fun q hq => hw q (List.mem_append_right _ hq))
    cases eb
    cases el
    exact ⟨⟨k, m, m2, b, l⟩, ⟨_, _, _, _, rfl, hb1, hb2, hl1, hb3, hl2, by first | exact hb4 | omega⟩⟩

set_option maxRecDepth 10000 in
theorem rd_ops5 {v : Value} {d : DataW H} {p : List MemPlace} (hv : ∃ a len cap, v = .slice a len cap) (h : DataW.Trod enc Try.prog W 0 (fun _ => true) true 92 v d p) (hw : ∀ n ∈ d.weights Try.prog 92, n ≤ reachBytes) : ∃ l, RdO5 W v l := by
  obtain ⟨a, len, cap, rfl⟩ := hv
  obtain ⟨fuel, hf⟩ := h
  rcases Deep.open_slice Try.underlying92 hf with ⟨hcs, _⟩ | ⟨x, len', cap', m, n, Dt, Pl, hcs, -, hl, -, hmm, hx, hel⟩
  · simp [Value.cells] at hcs
    obtain ⟨rfl, rfl, rfl⟩ := hcs
    exact ⟨[], none, 0, rfl, fun h => absurd rfl h, by simp⟩
  · simp [Value.cells] at hcs
    obtain ⟨rfl, rfl, rfl⟩ := hcs
    simp only [if_true] at hmm
    obtain rfl := hmm
    have hd := congrArg Prod.fst hx
    simp only at hd
    subst hd
    simp only [DataW.weights, Try.underlying92] at hw
    have hw0 := hw _ List.mem_cons_self
    rw [bytes102] at hw0
    have hlen : len ≤ 140737488351232 := by simp [reachBytes] at hw0; omega
    have key : ∀ i, i < len → ∃ o : OpW, ∃ cs, W.cells? 0 (x.add (i * 5)) 5 = some cs ∧ OpWIs W cs o := by
      intro i hi
      obtain ⟨cs, h1, h2⟩ := hel i (by omega)
      rw [cells102] at h1
      obtain ⟨o, ho⟩ := rd_op5_cells h2 (fun q hq => hw q (List.mem_cons_of_mem _ (List.mem_append_left _ (weightsAll_mem (List.mem_map.2 ⟨i, List.mem_range.2 hi, rfl⟩) hq))))
      exact ⟨o, cs, h1, ho⟩
    obtain ⟨l, hll, hq⟩ := exists_list len key
    refine ⟨l, some x, _, by rw [hll], fun hne => ?_, by omega⟩
    have hl0 : 0 < l.length := List.length_pos_iff.2 hne
    have hsp : x.spot = none := by
      obtain ⟨cs, h1, o4⟩ := hq 0 hl0
      obtain ⟨-, h2, h3⟩ := World.cells?_some h1
      have := h3 0 (by omega)
      rw [show cs[0]? = some cs[0] from List.getElem?_eq_getElem (by omega)] at this
      simpa [Addr.add] using World.cell?_spot this
    obtain ⟨b, off, sp⟩ := x
    simp only at hsp
    subst hsp
    refine ⟨b, off, rfl, fun j hj => ?_⟩
    obtain ⟨cs, h1, o4⟩ := hq j hj
    obtain ⟨-, h2, h3⟩ := World.cells?_some h1
    match cs, h2 with
    | [c0, c1, c2, c3, c4], _ =>
      have k0 := h3 0 (by omega)
      have k1 := h3 1 (by omega)
      have k2 := h3 2 (by omega)
      have k3 := h3 3 (by omega)
      have k4 := h3 4 (by omega)
      simp only [Addr.add_mid, Nat.add_zero] at k0 k1 k2 k3 k4
      exact ⟨c0, c1, c2, c3, c4, k0, k1, k2, k3, k4, o4⟩
end

/-- an operation of a script, behind whatever the call has made -/
theorem OpWsAt.here {W w : World} {a : Option Addr} {l : List OpW} (ha : OpWsAt W a l) (hb : Below W.heap.size W w) {k : Nat} (hlt : k < l.length) :
    ∃ b off, a = some ⟨b, off, none⟩ ∧ ∃ (ab : Option Addr) (cb : Nat) (al : Option Addr) (cl : Nat), w.cell? ⟨b, off + k * 5, none⟩ = some (.int .i64 l[k].kind) ∧ w.cell? ⟨b, off + k * 5 + 1, none⟩ = some (.int .i64 l[k].n) ∧
      w.cell? ⟨b, off + k * 5 + 2, none⟩ = some (.int .i64 l[k].m) ∧ w.cell? ⟨b, off + k * 5 + 3, none⟩ = some (.slice ab l[k].b.length cb) ∧ w.cell? ⟨b, off + k * 5 + 4, none⟩ = some (.slice al l[k].l.length cl) ∧
      BytesAt W ab l[k].b ∧ (ab = none → cb = 0) ∧ IntsAt W al l[k].l ∧ l[k].b.length ≤ 140737488351232 ∧ l[k].l.length ≤ 140737488351232 ∧ (∀ x, ab = some x → l[k].b ≠ [] → x.block < W.heap.size) ∧ (∀ x, al = some x → l[k].l ≠ [] → x.block < W.heap.size) ∧ l[k].b.length ≤ cb := by
  obtain ⟨bb, off, rfl, hops⟩ := ha (by intro e; rw [e] at hlt; simp at hlt)
  obtain ⟨c0, c1, c2, c3, c4, k0, k1, k2, k3, k4, hop⟩ := hops k hlt
  obtain ⟨ab, cb, al, cl, e, h1, h2, h3, h4, h5, h6⟩ := hop.is
  simp only [List.cons.injEq, and_true] at e
  obtain ⟨rfl, rfl, rfl, rfl, rfl⟩ := e
  have hlt := World.block_lt_of_cell? _ _ k0
  have keep : ∀ t v, W.cell? ⟨bb, t, none⟩ = some v → w.cell? ⟨bb, t, none⟩ = some v := fun t v hv => (hb.cell (p := ⟨bb, t, none⟩) hlt).trans hv
  have hl1 : ∀ x, ab = some x → l[k].b ≠ [] → x.block < W.heap.size := fun x hx hne => by subst hx; exact h1.lt hne
  have hl2 : ∀ x, al = some x → l[k].l ≠ [] → x.block < W.heap.size := fun x hx hne => by
    subst hx
    obtain ⟨b', off', e, hc⟩ := h3 hne
    cases e
    exact World.block_lt_of_cell? _ _ (hc 0 (List.length_pos_iff.2 hne))
  exact ⟨bb, off, rfl, ab, cb, al, cl, keep _ _ k0, keep _ _ k1, keep _ _ k2, keep _ _ k3, keep _ _ k4, h1, h2, h3, h4, h5, hl1, hl2, h6⟩
end Go.Proofs.Ytdinnkacilgmmaa
