/- What RowPagerPlays needs, part 8. -/
import Derived.Test.YtdinnkacilgmmaaPlG
namespace Go.Proofs.Ytdinnkacilgmmaa
open Go.ChangeShapes Go.WideShapes Go.ChangeAt Go.RowKit

/-- an operation of a pager's script -/
structure OpW where
  kind : Int
  n : Int
  m : Int
  b : List UInt8
  l : List Int
structure OpWIs (W : World) (cs : List Value) (o : OpW) : Prop where
  is : ∃ (ab : Option Addr) (cb : Nat) (al : Option Addr) (cl : Nat), cs = [.int .i64 o.kind, .int .i64 o.n, .int .i64 o.m, .slice ab o.b.length cb, .slice al o.l.length cl] ∧
    BytesAt W ab o.b ∧ (ab = none → cb = 0) ∧ IntsAt W al o.l ∧ o.b.length ≤ 140737488351232 ∧ o.l.length ≤ 140737488351232 ∧ o.b.length ≤ cb
def OpWsAt (W : World) (a : Option Addr) (l : List OpW) : Prop :=
  l ≠ [] → ∃ b off, a = some ⟨b, off, none⟩ ∧ ∀ j (h : j < l.length), ∃ c0 c1 c2 c3 c4, W.cell? ⟨b, off + j * 5, none⟩ = some c0 ∧ W.cell? ⟨b, off + j * 5 + 1, none⟩ = some c1 ∧
    W.cell? ⟨b, off + j * 5 + 2, none⟩ = some c2 ∧ W.cell? ⟨b, off + j * 5 + 3, none⟩ = some c3 ∧ W.cell? ⟨b, off + j * 5 + 4, none⟩ = some c4 ∧ OpWIs W [c0, c1, c2, c3, c4] l[j]
def RdO5 (W : World) (v : Value) (l : List OpW) : Prop := ∃ a cap, v = .slice a l.length cap ∧ OpWsAt W a l ∧ l.length ≤ 140737488351232

section
variable {H : Type} {enc : TypeId × Value → H} {W : World}

theorem cells102 : Try.prog.cellsOf 102 = 5 := by kernel_rfl
theorem bytes102 : Try.prog.bytesOf 102 = 72 := by kernel_rfl
theorem one102 : Try.prog.cellsOf 3 = 1 ∧ Try.prog.cellsOf 2 = 1 ∧ Try.prog.cellsOf 22 = 1 ∧ Try.prog.cellsOf 39 = 1 := by refine ⟨?_, ?_, ?_, ?_⟩ <;> kernel_rfl

theorem trod_struct5 {t : TypeId} {f0 f1 f2 f3 f4 : Field} {fuel : Nat} {cs : List Value} {x : DataW H × List MemPlace} (ht : Try.prog.underlying t = some (.struct #[f0, f1, f2, f3, f4])) (h : DataW.trod enc Try.prog W 0 (fun _ => true) true fuel t cs = some x) :
    ∃ y0 y1 y2 y3 y4 n, x = (.agg [y0.1, y1.1, y2.1, y3.1, y4.1], y0.2 ++ (y1.2 ++ (y2.2 ++ (y3.2 ++ y4.2)))) ∧ cs.length = Try.prog.cellsOf t ∧ DataW.trod enc Try.prog W 0 (fun _ => true) true n f0.type ((cs.drop f0.offset).take (Try.prog.cellsOf f0.type)) = some y0 ∧
      DataW.trod enc Try.prog W 0 (fun _ => true) true n f1.type ((cs.drop f1.offset).take (Try.prog.cellsOf f1.type)) = some y1 ∧ DataW.trod enc Try.prog W 0 (fun _ => true) true n f2.type ((cs.drop f2.offset).take (Try.prog.cellsOf f2.type)) = some y2 ∧
      DataW.trod enc Try.prog W 0 (fun _ => true) true n f3.type ((cs.drop f3.offset).take (Try.prog.cellsOf f3.type)) = some y3 ∧ DataW.trod enc Try.prog W 0 (fun _ => true) true n f4.type ((cs.drop f4.offset).take (Try.prog.cellsOf f4.type)) = some y4 := by
  obtain ⟨xs, n, _, rfl, hl, hlen, hf⟩ := DataW.trod_struct ht h
  match xs, hlen with
  | [y0, y1, y2, y3, y4], _ => exact ⟨y0, y1, y2, y3, y4, n, by simp, hl, by simpa using hf 0 f0 rfl, by simpa using hf 1 f1 rfl, by simpa using hf 2 f2 rfl, by simpa using hf 3 f3 rfl, by simpa using hf 4 f4 rfl⟩

set_option maxRecDepth 10000 in
theorem rd_op5_cells {fuel : Nat} {cs : List Value} {y : DataW H × List MemPlace} (h : DataW.trod enc Try.prog W 0 (fun _ => true) true fuel 102 cs = some y) (hw : ∀ m ∈ y.1.weights Try.prog 102, m ≤ reachBytes) :
    ∃ o : OpW, OpWIs W cs o := by
  obtain ⟨y0, y1, y2, y3, y4, n, rfl, hlen, h0, h1, h2, h3, h4⟩ := trod_struct5 Try.underlying102 h
  rw [cells102] at hlen
  match cs, hlen with
  | [c0, c1, c2, c3, c4], _ =>
    simp only [one102.1, one102.2.1, one102.2.2.1, one102.2.2.2, List.drop_zero, List.drop_succ_cons, List.take_succ_cons, List.take_zero] at h0 h1 h2 h3 h4
    obtain ⟨k, e0, rfl, -⟩ := DataW.trod_int Try.underlying3 h0
    obtain ⟨m, e1, rfl, -⟩ := DataW.trod_int Try.underlying3 h1
    obtain ⟨m2, e4, rfl, -⟩ := DataW.trod_int Try.underlying2 h2
    obtain ⟨ab, lb, cb, e2⟩ := slice_shape Try.underlying22 h3
    obtain ⟨al, ll, cl, e3⟩ := slice_shape Try.underlying39 h4
    simp only [List.cons.injEq, and_true] at e0 e1 e2 e3 e4
    subst e0 e1 e2 e3 e4
    simp only [DataW.weights, Try.underlying102, List.map, DataW.weightsEach, List.append_nil, List.nil_append] at hw
    obtain ⟨b, ab', cb', eb, hb1, hb2, hb3, hb4⟩ := rd_bytes (enc := enc) (W := W) (v := .slice ab lb cb) ⟨_, _, _, rfl⟩ ⟨n, by simpa [Value.cells] using h3⟩ (fun q hq => hw q (List.mem_append_left _ hq))
    obtain ⟨l, al', cl', el, hl1, hl2⟩ := rd_ints (enc := enc) (W := W) (v := .slice al ll cl) ⟨_, _, _, rfl⟩ ⟨n, by simpa [Value.cells] using h4⟩ (fun q hq => hw q (List.mem_append_right _ hq))
    cases eb
    cases el
    exact ⟨⟨k, m, m2, b, l⟩, ⟨_, _, _, _, rfl, hb1, hb2, hl1, hb3, hl2, by first | exact hb4 | omega⟩⟩

set_option maxRecDepth 10000 in
theorem rd_ops5 {v : Value} {d : DataW H} {p : List MemPlace} (hv : ∃ a len cap, v = .slice a len cap) (h : DataW.Trod enc Try.prog W 0 (fun _ => true) true 92 v d p) (hw : ∀ n ∈ d.weights Try.prog 92, n ≤ reachBytes) : ∃ l, RdO5 W v l := by
  obtain ⟨a, len, cap, rfl⟩ := hv
  obtain ⟨fuel, hf⟩ := h
  rcases Deep.open_slice Try.underlying92 hf with ⟨hcs, _⟩ | ⟨x, len', cap', m, n, Dt, Pl, hcs, -, hl, -, hmm, hx, hel⟩
  · simp [Value.cells] at hcs
    obtain ⟨rfl, rfl, rfl⟩ := hcs
    exact ⟨[], none, 0, rfl, fun h => absurd rfl h, by simp⟩
  · simp [Value.cells] at hcs
    obtain ⟨rfl, rfl, rfl⟩ := hcs
    simp only [if_true] at hmm
    obtain rfl := hmm
    have hd := congrArg Prod.fst hx
    simp only at hd
    subst hd
    simp only [DataW.weights, Try.underlying92] at hw
    have hw0 := hw _ List.mem_cons_self
    rw [bytes102] at hw0
    have hlen : len ≤ 140737488351232 := by simp [reachBytes] at hw0; omega
    have key : ∀ i, i < len → ∃ o : OpW, ∃ cs, W.cells? 0 (x.add (i * 5)) 5 = some cs ∧ OpWIs W cs o := by
      intro i hi
      obtain ⟨cs, h1, h2⟩ := hel i (by omega)
      rw [cells102] at h1
      obtain ⟨o, ho⟩ := rd_op5_cells h2 (fun q hq => hw q (List.mem_cons_of_mem _ (List.mem_append_left _ (weightsAll_mem (List.mem_map.2 ⟨i, List.mem_range.2 hi, rfl⟩) hq))))
      exact ⟨o, cs, h1, ho⟩
    obtain ⟨l, hll, hq⟩ := exists_list len key
    refine ⟨l, some x, _, by rw [hll], fun hne => ?_, by omega⟩
    have hl0 : 0 < l.length := List.length_pos_iff.2 hne
    have hsp : x.spot = none := by
      obtain ⟨cs, h1, o4⟩ := hq 0 hl0
      obtain ⟨-, h2, h3⟩ := World.cells?_some h1
      have := h3 0 (by omega)
      rw [show cs[0]? = some cs[0] from List.getElem?_eq_getElem (by omega)] at this
      simpa [Addr.add] using World.cell?_spot this
    obtain ⟨b, off, sp⟩ := x
    simp only at hsp
    subst hsp
    refine ⟨b, off, rfl, fun j hj => ?_⟩
    obtain ⟨cs, h1, o4⟩ := hq j hj
    obtain ⟨-, h2, h3⟩ := World.cells?_some h1
    match cs, h2 with
    | [c0, c1, c2, c3, c4], _ =>
      have k0 := h3 0 (by omega)
      have k1 := h3 1 (by omega)
      have k2 := h3 2 (by omega)
      have k3 := h3 3 (by omega)
      have k4 := h3 4 (by omega)
      simp only [Addr.add_mid, Nat.add_zero] at k0 k1 k2 k3 k4
      exact ⟨c0, c1, c2, c3, c4, k0, k1, k2, k3, k4, o4⟩
end

/-- an operation of a script, behind whatever the call has made -/
theorem OpWsAt.here {W w : World} {a : Option Addr} {l : List OpW} (ha : OpWsAt W a l) (hb : Below W.heap.size W w) {k : Nat} (hlt : k < l.length) :
    ∃ b off, a = some ⟨b, off, none⟩ ∧ ∃ (ab : Option Addr) (cb : Nat) (al : Option Addr) (cl : Nat), w.cell? ⟨b, off + k * 5, none⟩ = some (.int .i64 l[k].kind) ∧ w.cell? ⟨b, off + k * 5 + 1, none⟩ = some (.int .i64 l[k].n) ∧
      w.cell? ⟨b, off + k * 5 + 2, none⟩ = some (.int .i64 l[k].m) ∧ w.cell? ⟨b, off + k * 5 + 3, none⟩ = some (.slice ab l[k].b.length cb) ∧ w.cell? ⟨b, off + k * 5 + 4, none⟩ = some (.slice al l[k].l.length cl) ∧
      BytesAt W ab l[k].b ∧ (ab = none → cb = 0) ∧ IntsAt W al l[k].l ∧ l[k].b.length ≤ 140737488351232 ∧ l[k].l.length ≤ 140737488351232 ∧ (∀ x, ab = some x → l[k].b ≠ [] → x.block < W.heap.size) ∧ (∀ x, al = some x → l[k].l ≠ [] → x.block < W.heap.size) ∧ l[k].b.length ≤ cb := by
  obtain ⟨bb, off, rfl, hops⟩ := ha (by intro e; rw [e] at hlt; simp at hlt)
  obtain ⟨c0, c1, c2, c3, c4, k0, k1, k2, k3, k4, hop⟩ := hops k hlt
  obtain ⟨ab, cb, al, cl, e, h1, h2, h3, h4, h5, h6⟩ := hop.is
  simp only [List.cons.injEq, and_true] at e
  obtain ⟨rfl, rfl, rfl, rfl, rfl⟩ := e
  have hlt := World.block_lt_of_cell? _ _ k0
  have keep : ∀ t v, W.cell? ⟨bb, t, none⟩ = some v → w.cell? ⟨bb, t, none⟩ = some v := fun t v hv => (hb.cell (p := ⟨bb, t, none⟩) hlt).trans hv
  have hl1 : ∀ x, ab = some x → l[k].b ≠ [] → x.block < W.heap.size := fun x hx hne => by subst hx; exact h1.lt hne
  have hl2 : ∀ x, al = some x → l[k].l ≠ [] → x.block < W.heap.size := fun x hx hne => by
    subst hx
    obtain ⟨b', off', e, hc⟩ := h3 hne
    cases e
    exact World.block_lt_of_cell? _ _ (hc 0 (List.length_pos_iff.2 hne))
  exact ⟨bb, off, rfl, ab, cb, al, cl, keep _ _ k0, keep _ _ k1, keep _ _ k2, keep _ _ k3, keep _ _ k4, h1, h2, h3, h4, h5, hl1, hl2, h6⟩
end Go.Proofs.Ytdinnkacilgmmaa
namespace Go.Proofs.Ytdinnkacilgmmaa
open Go.RowKit

/-- a block that is as it was laid -/
def BlkT (B k : Nat) (o : Obj) : Thg B := ⟨fun w F => B ≤ k ∧ w.heap[k]? = some o ∧ F = fun j => j = k, fun {w F} h j hj => by obtain ⟨h1, h2, rfl⟩ := h; subst hj; exact ⟨h1, lt_of_block h2⟩,
  fun {G w w' F} h hm hF => by obtain ⟨h1, h2, rfl⟩ := h; exact ⟨h1, hm.obj h2 (hF k rfl), rfl⟩⟩
theorem Apart.lay {w0 w : World} {B : Nat} {Ts : List (Thg B)} (h : Apart w0 B Ts w) (o : Obj) : Apart w0 B (Ts ++ [BlkT B w.heap.size o]) (w.alloc o) :=
  h.more (BlkT B w.heap.size o) (Mod.alloc _ _ _) ⟨h.le, heap_alloc_new w o, rfl⟩ (fun k hk => by rw [hk]; exact Nat.le_refl _)
theorem Apart.blk {w0 w : World} {B : Nat} {Ts : List (Thg B)} (h : Apart w0 B Ts w) (i : Nat) {k : Nat} {o : Obj} (hi : Ts[i]? = some (BlkT B k o)) : w.heap[k]? = some o := by
  obtain ⟨F, -, h2, -⟩ := h.get i hi
  exact h2
def opWO (o : OpW) (ab : Option Addr) (cb : Nat) (al : Option Addr) (cl : Nat) : Obj := .cells #[.int .i64 o.kind, .int .i64 o.n, .int .i64 o.m, .slice ab o.b.length cb, .slice al o.l.length cl] 102
theorem Apart.opCells {w0 w : World} {B : Nat} {Ts : List (Thg B)} (h : Apart w0 B Ts w) (i : Nat) {k : Nat} {o : OpW} {ab : Option Addr} {cb : Nat} {al : Option Addr} {cl : Nat} (hi : Ts[i]? = some (BlkT B k (opWO o ab cb al cl))) :
    w.cell? ⟨k, 0, none⟩ = some (.int .i64 o.kind) ∧ w.cell? ⟨k, 1, none⟩ = some (.int .i64 o.n) ∧ w.cell? ⟨k, 2, none⟩ = some (.int .i64 o.m) ∧ w.cell? ⟨k, 3, none⟩ = some (.slice ab o.b.length cb) ∧ w.cell? ⟨k, 4, none⟩ = some (.slice al o.l.length cl) := by
  have hc := fun j => cell_of_row w k j _ 102 (0, 0) (h.blk i hi)
  exact ⟨hc 0, hc 1, hc 2, hc 3, hc 4⟩

end Go.Proofs.Ytdinnkacilgmmaa
namespace Go.Proofs.Ytdinnkacilgmmaa
open Go.RowKit

/-- what a slice of slices reads as -/
def RowsAt (w : World) (a : Option Addr) (xs : List Value) : Prop :=
  xs ≠ [] → ∃ b off, a = some ⟨b, off, none⟩ ∧ ∀ j (h : j < xs.length), w.cell? ⟨b, off + j, none⟩ = some xs[j]
/-- a slice value that reads as bytes -/
def SlB (w : World) (x : Value) (l : List UInt8) : Prop := ∃ a cap, x = .slice a l.length cap ∧ BytesAt w a l ∧ (a = none → cap = 0)
/-- a slice of slices that reads as rows of bytes -/
def RdBB (w : World) (a : Option Addr) (ls : List (List UInt8)) : Prop := ∃ xs, xs.length = ls.length ∧ RowsAt w a xs ∧ ∀ i (h : i < xs.length) (h2 : i < ls.length), SlB w xs[i] ls[i]

theorem SlB.mod {F : Nat → Prop} {w w' : World} {x : Value} {l : List UInt8} (h : SlB w x l) (hm : Mod F w w') (hF : ∀ a n c, x = .slice (some a) n c → l ≠ [] → ¬ F a.block) : SlB w' x l := by
  obtain ⟨a, cap, rfl, h1, h2⟩ := h
  exact ⟨a, cap, rfl, h1.mod hm (fun y hy hl => by subst hy; exact hF y _ _ rfl hl), h2⟩
theorem SlB.still {w w' : World} {x : Value} {l : List UInt8} (h : SlB w x l) (hm : Mod (fun _ => False) w w') : SlB w' x l := h.mod hm (fun _ _ _ _ _ => id)
theorem RowsAt.mod {F : Nat → Prop} {w w' : World} {a : Option Addr} {xs : List Value} (h : RowsAt w a xs) (hm : Mod F w w') (hF : ∀ y, a = some y → xs ≠ [] → ¬ F y.block) : RowsAt w' a xs := by
  intro hl
  obtain ⟨b, off, rfl, hc⟩ := h hl
  exact ⟨b, off, rfl, fun j hj => hm.cell' (hc j hj) (hF ⟨b, off, none⟩ rfl hl)⟩
theorem RdBB.still {w w' : World} {a : Option Addr} {ls : List (List UInt8)} (h : RdBB w a ls) (hm : Mod (fun _ => False) w w') : RdBB w' a ls := by
  obtain ⟨xs, h1, h2, h3⟩ := h
  exact ⟨xs, h1, h2.mod hm (fun _ _ _ => id), fun i hi hi2 => (h3 i hi hi2).still hm⟩
theorem RdBB.nil (w : World) (a : Option Addr) : RdBB w a [] := ⟨[], rfl, fun h => absurd rfl h, fun i h => by simp at h⟩
/-- one of them -/
theorem RdBB.here {w : World} {a : Option Addr} {ls : List (List UInt8)} (h : RdBB w a ls) {i : Nat} (hi : i < ls.length) : ∃ b off x, a = some ⟨b, off, none⟩ ∧ w.cell? ⟨b, off + i, none⟩ = some x ∧ SlB w x ls[i] := by
  obtain ⟨xs, h1, h2, h3⟩ := h
  have hx : i < xs.length := by omega
  obtain ⟨b, off, e, hc⟩ := h2 (by intro e; rw [e] at hx; simp at hx)
  exact ⟨b, off, xs[i], e, hc i hx, h3 i hx hi⟩
theorem OBB.rd {w : World} {B : Nat} {v : Value} {ls : List (List UInt8)} {G : Nat → Prop} (h : OBB w B v ls G) : ∃ a cap, v = .slice a ls.length cap ∧ RdBB w a ls := by
  obtain ⟨xs, h1, h2, h3, -⟩ := h
  obtain ⟨a, cap, e, -, -, -⟩ := owns_shape h1
  refine ⟨a, cap, by rw [← h2]; exact e, xs, h2, fun hne => ?_, fun i hi hi2 => ?_⟩
  · rcases h1.2 with ⟨e1, e2⟩ | ⟨g, cap', cur, e1, -, hg, -, -, -, hrow⟩
    · exact absurd (List.eq_nil_of_length_eq_zero e2) hne
    · rw [e] at e1
      cases e1
      refine ⟨g, 0, rfl, fun j hj => ?_⟩
      rw [cell_of_row w g (0 + j) cur 22 (0, 0) hg]
      have h8 := congrArg (fun x => x[j]?) hrow
      simp only [List.getElem?_take, Nat.mul_one, hj, if_true, Nat.zero_add] at h8 ⊢
      rw [← Array.getElem?_toList, h8, List.getElem?_eq_getElem hj]
  · obtain ⟨a', c', e', -, -, hb⟩ := (h3 i hi hi2).shape
    refine ⟨a', c', e', hb, fun hn => ?_⟩
    subst hn
    rcases (h3 i hi hi2).2 with ⟨e1, -⟩ | ⟨g, cap', cur, e1, -⟩
    · have e2 := e'.symm.trans e1
      injection e2
    · rw [e'] at e1; cases e1

end Go.Proofs.Ytdinnkacilgmmaa
namespace Go.Proofs.Ytdinnkacilgmmaa
open Go.RowKit

/-- a root in a variable, with bytes of the call's own -/
def RootT (B k : Nat) (R : Rt) : Thg B :=
  ⟨fun w F => ∃ a c, w.heap[k]? = some (.cells #[.int .i64 (R.gen : Int), .int .i64 R.page, .int .i64 (R.next : Int), .slice a R.mt.length c] 95 (0, 0)) ∧ B ≤ k ∧ OwnB w B (.slice a R.mt.length c) R.mt ∧ (Value.slice a R.mt.length c).ownBlock ≠ some k ∧ F = fun j => j = k ∨ (Value.slice a R.mt.length c).ownBlock = some j,
  fun {w F} h j hj => by
    obtain ⟨a, c, h1, h2, h3, h4, rfl⟩ := h
    rcases hj with rfl | hj
    · exact ⟨h2, lt_of_block h1⟩
    · exact World.ownsRow.lt h3 j hj,
  fun {G w w' F} h hm hF => by
    obtain ⟨a, c, h1, h2, h3, h4, rfl⟩ := h
    exact ⟨a, c, hm.obj h1 (hF k (.inl rfl)), h2, h3.mod hm (fun j hj => hF j (.inr hj)), h4, rfl⟩⟩
section
variable {w0 w : World} {B : Nat} {Ts : List (Thg B)} {R : Rt}

theorem Apart.root (h : Apart w0 B Ts w) (i : Nat) {k : Nat} (hi : Ts[i]? = some (RootT B k R)) : ∃ a c, w.heap[k]? = some (.cells #[.int .i64 (R.gen : Int), .int .i64 R.page, .int .i64 (R.next : Int), .slice a R.mt.length c] 95 (0, 0)) ∧ BytesAt w a R.mt := by
  obtain ⟨F, a, c, h1, -, h3, -⟩ := h.get i hi
  obtain ⟨a', c', e, -, -, hb⟩ := h3.shape
  cases e
  exact ⟨a, c, h1, hb⟩
end
end Go.Proofs.Ytdinnkacilgmmaa
namespace Go.Proofs.Ytdinnkacilgmmaa
open Go.RowKit

/-- the reference's register behind i bits of a byte -/
def stepR (r : BitVec 32) (c : UInt8) (i : Nat) : BitVec 32 := shn i (r ^^^ ext c) ^^^ (ext c >>> i)
theorem stepR_zero (r : BitVec 32) (c : UInt8) : stepR r c 0 = r := by
  unfold stepR
  show (r ^^^ ext c) ^^^ (ext c >>> 0) = r
  rw [BitVec.ushiftRight_zero, BitVec.xor_assoc, BitVec.xor_self, BitVec.xor_zero]
theorem ext_shr8 (c : UInt8) : ext c >>> 8 = 0#32 := by
  apply BitVec.eq_of_toNat_eq
  rw [BitVec.toNat_ushiftRight, ext_toNat, Nat.shiftRight_eq_div_pow]
  have := c.toNat_lt
  show c.toNat / 256 = 0
  omega
theorem stepR_all (r : BitVec 32) (c : UInt8) : stepR r c 8 = stepB r c := by
  unfold stepR stepB
  rw [ext_shr8, BitVec.xor_zero]
theorem stepR_bit (r : BitVec 32) (c : UInt8) (i : Nat) : stepR r c i ^^^ (ext c >>> i) = shn i (r ^^^ ext c) := by
  unfold stepR
  rw [BitVec.xor_assoc, BitVec.xor_self, BitVec.xor_zero]
theorem stepR_succ (r : BitVec 32) (c : UInt8) (i : Nat) : stepR r c (i + 1) = (stepR r c i >>> 1) ^^^ (if (shn i (r ^^^ ext c)).getLsbD 0 then 0x82f63b78#32 else 0#32) := by
  unfold stepR
  rw [shn_succ']
  generalize shn i (r ^^^ ext c) = y
  have e : ext c >>> (i + 1) = (ext c >>> i) >>> 1 := by rw [← BitVec.shiftRight_add]
  rw [e]
  generalize ext c >>> i = z
  unfold sh
  have : (y ^^^ z) >>> 1 = (y >>> 1) ^^^ (z >>> 1) := by
    apply BitVec.eq_of_getLsbD_eq; intro j hj; simp
  rw [this, BitVec.xor_assoc, BitVec.xor_assoc]
  congr 1
  exact BitVec.xor_comm _ _
theorem stepR_and (r : BitVec 32) (c : UInt8) (i : Nat) : bits .and .u32 (bits .xor .u32 ((stepR r c i).toNat : Int) ((c.toNat : Int) / 2 ^ i)) 1 = ((if (shn i (r ^^^ ext c)).getLsbD 0 then 1 else 0 : Nat) : Int) := by
  have e : (c.toNat : Int) / 2 ^ i = ((ext c >>> i).toNat : Int) := by
    rw [BitVec.toNat_ushiftRight, ext_toNat, Nat.shiftRight_eq_div_pow]
    push_cast
    rfl
  rw [e, bits_xor, stepR_bit, show (1 : Int) = (((1#32).toNat : Nat) : Int) from rfl, bits_and, bit0_and]
  by_cases h : (shn i (r ^^^ ext c)).getLsbD 0 = true
  · rw [if_pos h, if_pos h]; rfl
  · rw [if_neg h, if_neg h]; rfl
theorem half_bv (x : BitVec 32) : (x.toNat : Int) / (2 : Int) = ((x >>> 1).toNat : Int) := by
  rw [BitVec.toNat_ushiftRight, Nat.shiftRight_eq_div_pow, Nat.pow_one]; omega
theorem poly_xor (x : BitVec 32) : bits .xor .u32 (x.toNat : Int) 2197175160 = ((x ^^^ 0x82f63b78#32).toNat : Int) := by
  rw [show (2197175160 : Int) = (((0x82f63b78#32).toNat : Nat) : Int) from rfl, bits_xor]

set_option maxRecDepth 100000 in
theorem rstep_any (r : BitVec 32) (c : UInt8) (w : World) : Calls Try.prog 145 #[.int .u32 r.toNat, .int .u8 c.toNat] w fun e w' => e = .returned (.int .u32 (stepB r c).toNat) ∧ w = w' := by
  have hc := c.toNat_lt
  go_enter Try.func145, Try.ntmps145
  go_wp2_with fail
  go_loop [0, 5] (fun v0 v5 => ∃ i : Nat, i ≤ 8 ∧ v5 = .int .i64 (i : Int) ∧ v0 = .int .u32 ((stepR r c i).toNat : Int)) (fun _ v5 => 8 - (intOf v5).toNat)
  case atStart => exact ⟨0, Nat.zero_le _, rfl, by rw [stepR_zero]⟩
  case round =>
    obtain ⟨i, hi, rfl, rfl⟩ := hrel
    by_cases hlt : i < 8
    · have hlt' : (i : Int) < 8 := by omega
      have hw : (c.toNat : Int) / 2 ^ i % 4294967296 = (c.toNat : Int) / 2 ^ i := by
        have e : (c.toNat : Int) / 2 ^ i = ((c.toNat / 2 ^ i : Nat) : Int) := by push_cast; rfl
        have := Nat.div_le_self c.toNat (2 ^ i)
        rw [e]
        clear e
        generalize c.toNat / 2 ^ i = m at *
        omega
      have HA := Lib.hid (stepR_and r c i)
      have HS := Lib.hid (stepR_succ r c i)
      have HH := Lib.hid (half_bv (stepR r c i))
      have HP := Lib.hid (poly_xor (stepR r c i >>> 1))
      generalize stepR r c i = x at *
      obtain ⟨y, hy⟩ : ∃ y, y = (shn i (r ^^^ ext c)).getLsbD 0 := ⟨_, rfl⟩
      rw [← hy] at HA HS
      clear hy
      cases y
      · have ha : bits .and .u32 (bits .xor .u32 (x.toNat : Int) ((c.toNat : Int) / 2 ^ i)) 1 = 0 := HA.out
        have hs : stepR r c (i + 1) = x >>> 1 := by rw [HS.out]; simp
        have HS2 := Lib.hid hs
        clear hs HA HS
        go_wp2_with fail
        go_round
        case rel => exact ⟨i + 1, by omega, by go_num, by rw [HS2.out]; exact congrArg (Value.int .u32) HH.out⟩
        case measure => simp [intOf]; omega
      · have ha : bits .and .u32 (bits .xor .u32 (x.toNat : Int) ((c.toNat : Int) / 2 ^ i)) 1 = 1 := HA.out
        have hs : stepR r c (i + 1) = (x >>> 1) ^^^ 0x82f63b78#32 := by rw [HS.out]; simp
        have HS2 := Lib.hid hs
        clear hs HA HS
        go_wp2_with fail
        go_round
        case rel => exact ⟨i + 1, by omega, by go_num, by rw [HS2.out]; exact congrArg (Value.int .u32) (by first | exact HP.out | (rw [HH.out]; exact HP.out))⟩
        case measure => simp [intOf]; omega
    · obtain rfl : i = 8 := by omega
      rw [stepR_all]
      go_wp2
      go_ret
      exact ⟨rfl, rfl⟩

set_option maxHeartbeats 400000 in
theorem rmore_any (s : BitVec 32) (a : Option Addr) (l : List UInt8) (cap : Nat) (w : World) (hm : l.length ≤ 140737488351232) (hb : BytesAt w a l) :
    Calls Try.prog 143 #[.int .u32 s.toNat, .slice a l.length cap] w fun e w' => e = .returned (.int .u32 (more s l).toNat) ∧ w = w' := by
  have hsg : IntKind.u32.signed = false := rfl
  have HN := Lib.hid (bits_not s)
  go_enter Try.func143, Try.ntmps143
  go_wp2_with fail
  go_loop [5, 6] (fun v5 v6 => ∃ i : Nat, i ≤ l.length ∧ v6 = .int .i64 (i : Int) ∧ v5 = .int .u32 ((reg (~~~ s) (l.take i)).toNat : Int)) (fun _ v6 => l.length - (intOf v6).toNat)
  case atStart => exact ⟨0, Nat.zero_le _, rfl, by rw [HN.out]; rfl⟩
  case round =>
    obtain ⟨i, hi, rfl, rfl⟩ := hrel
    by_cases hlt : i < l.length
    · have hlt' : (i : Int) < (l.length : Int) := by omega
      obtain ⟨b, off, rfl, hc⟩ := hb (by intro e; rw [e] at hlt; simp at hlt)
      have xc := hc i hlt
      have HR := Lib.hid (reg_snoc (~~~ s) l i hlt)
      generalize reg (~~~ s) (l.take i) = x at *
      generalize l[i] = c at *
      clear hc
      go_wp2_with (go_at_call 145; refine (rstep_any x c _).mono ?_; rintro e w' ⟨rfl, rfl⟩)
      go_round
      case rel => exact ⟨i + 1, by omega, by go_num, by rw [HR.out]; rfl⟩
      case measure => simp [intOf]; omega
    · obtain rfl : i = l.length := by omega
      rw [List.take_length]
      have HX := Lib.hid (bits_not (reg (~~~ s) l))
      go_wp2
      go_ret
      exact ⟨ret_val (congrArg (Value.int .u32) HX.out), rfl⟩
theorem rsum_any (a : Option Addr) (l : List UInt8) (n cap : Nat) (w : World) (hn : l.length = n) (hm : l.length ≤ 140737488351232) (hb : BytesAt w a l) :
    Calls Try.prog 138 #[.slice a n cap] w fun e w' => e = .returned (.int .u32 (crc l).toNat) ∧ w = w' := by
  subst hn
  have H := Lib.hid (fun w => rmore_any 0#32 a l cap w hm)
  go_enter Try.func138, Try.ntmps138
  go_wp2_with fail
  refine (H.out w hb).mono ?_
  rintro e w' ⟨rfl, rfl⟩
  go_wp2
  go_ret
  exact ⟨rfl, rfl⟩

end Go.Proofs.Ytdinnkacilgmmaa
namespace Go.Proofs.Ytdinnkacilgmmaa
open Go.RowKit

set_option maxRecDepth 100000 in
theorem rread_le (a : Option Addr) (l : List UInt8) (n cap : Nat) (w : World) (hn : l.length = n) (hb : BytesAt w a l) (hl : l.length ≤ 8) :
    Calls Try.prog 137 #[.slice a n cap] w fun e w' => e = .returned (.int .u64 (unle l : Int)) ∧ w = w' := by
  subst hn
  go_enter Try.func137, Try.ntmps137
  go_wp2_with fail
  go_loop [3, 4] (fun v3 v4 => ∃ i : Nat, i ≤ l.length ∧ v4 = .int .i64 (i : Int) ∧ v3 = .int .u64 (unle (l.take i) : Int)) (fun _ v4 => l.length - (intOf v4).toNat)
  case atStart => exact ⟨0, Nat.zero_le _, rfl, rfl⟩
  case round =>
    obtain ⟨i, hi, rfl, rfl⟩ := hrel
    by_cases hlt : i < l.length
    · have hlt' : (i : Int) < (l.length : Int) := by omega
      obtain ⟨b, off, rfl, hc⟩ := hb (by intro e; rw [e] at hlt; simp at hlt)
      have xc := hc i hlt
      have hx := unle_lt (l.take i)
      rw [List.length_take, Nat.min_eq_left hi] at hx
      have hst := back_step i (unle (l.take i)) l[i] (by omega) hx
      have hsn : unle (l.take (i + 1)) = unle (l.take i) + 256 ^ i * l[i].toNat := by
        rw [List.take_succ_eq_append_getElem hlt, unle_snoc, List.length_take, Nat.min_eq_left hi]
      have HST := Lib.hid hst
      have HSN := Lib.hid hsn
      clear hst hsn hx hb hc
      generalize l[i] = c at *
      go_wp2_with fail
      go_round
      case rel => exact ⟨i + 1, by omega, by go_num, by rw [HSN.out, ← HST.out]⟩
      case measure => simp [intOf]; omega
    · obtain rfl : i = l.length := by omega
      rw [List.take_length]
      go_wp2
      go_ret
      exact ⟨rfl, rfl⟩

/-- what grows: of the block that it began with, or of new ones -/
def Grew (w : World) (v v' : Value) (w' : World) : Prop := Mod (fun k => some k = v.ownBlock) w w' ∧ ∀ k, v'.ownBlock = some k → v.ownBlock = some k ∨ w.heap.size ≤ k
theorem Grew.refl (w : World) (v : Value) : Grew w v v w := ⟨Mod.refl _ _, fun _ h => .inl h⟩
theorem Grew.step {w w1 w2 : World} {v v1 v2 : Value} (h : Grew w v v1 w1) (hm : Mod (fun k => some k = v1.ownBlock) w1 w2) (hv : v2.ownBlock = v1.ownBlock ∨ v2.ownBlock = some w1.heap.size) : Grew w v v2 w2 := by
  refine ⟨h.1.trans hm (fun k hk e => ?_), fun k hk => ?_⟩
  · rcases h.2 k e.symm with e2 | e2
    · exact e2.symm
    · omega
  · rcases hv with e | e
    · rw [e] at hk; exact h.2 k hk
    · rw [e] at hk; cases hk; exact .inr h.1.size
theorem Grew.still {w w1 w2 : World} {v v1 : Value} (h : Grew w v v1 w1) (hm : Mod (fun _ => False) w1 w2) : Grew w v v1 w2 := ⟨h.1.trans hm (fun _ _ e => e.elim), h.2⟩
theorem Grew.trans {w w1 w2 : World} {v v1 v2 : Value} (h : Grew w v v1 w1) (k : Grew w1 v1 v2 w2) : Grew w v v2 w2 := by
  refine ⟨h.1.trans k.1 (fun x hx e => ?_), fun x hx => ?_⟩
  · rcases h.2 x e.symm with e2 | e2
    · exact e2.symm
    · omega
  · rcases k.2 x hx with e | e
    · exact h.2 x e
    · have := h.1.size; exact .inr (by omega)

set_option maxHeartbeats 1000000 in
set_option maxRecDepth 100000 in
theorem number_any {w : World} {B : Nat} {v : Value} {l : List UInt8} (ho : OwnB w B v l) (hB : B ≤ w.heap.size) (hl : l.length ≤ 1000) (n : Nat) (size : Nat) (hs : size ≤ 8) :
    Calls Try.prog 142 #[v, .int .u64 (n : Int), .int .i64 (size : Int)] w fun e w' => ∃ v', e = .returned v' ∧ OwnB w' B v' (l ++ le size n) ∧ Grew w v v' w' := by
  have HO := Lib.hid ho
  clear ho
  go_enter Try.func142, Try.ntmps142
  go_wp2_with fail
  go_loopw [0, 7] (fun v0 v7 wr => ∃ i : Nat, i ≤ size ∧ v7 = .int .i64 (i : Int) ∧ OwnB wr B v0 (l ++ le i n) ∧ Grew w v v0 wr) (fun _ v7 _ => size - (intOf v7).toNat)
  case atStart => exact ⟨0, Nat.zero_le _, rfl, by rw [show le 0 n = [] from rfl, List.append_nil]; exact HO.out, Grew.refl _ _⟩
  case round =>
    obtain ⟨i, hi, rfl, ho, hg⟩ := hrel
    by_cases hlt : i < size
    · have hlt' : (i : Int) < (size : Int) := by omega
      have hll : (l ++ le i n).length ≤ 1010 := by rw [List.length_append, le_length]; omega
      have hsz := hg.1.size
      have hsn := le_snoc i n
      have HSN := Lib.hid hsn
      have HOO := Lib.hid ho
      have HG := Lib.hid hg
      clear ho hg hsn
      obtain ⟨c, hc⟩ : ∃ c, c = UInt8.ofNat (n / 256 ^ i) := ⟨_, rfl⟩
      have hcx : (n : Int) / 2 ^ (8 * i) % 256 = (c.toNat : Int) := by
        rw [hc, UInt8.toNat_ofNat', pow_256 i]
        norm_cast
      have HC := Lib.hid hc
      clear hc
      go_wp2_with (at_builtin; refine appB_at rfl _ _ rfl B u0 (l ++ le i n) rfl (HOO.out.mod (Mod.alloc (fun _ => False) _ _) (fun _ _ => id)) (some ⟨wr.heap.size, 0, none⟩) 1 1 [c] rfl rfl (fun e => by cases e) (bytesAt_new' rfl rfl) (by simp only [List.length_cons, List.length_nil]; omega) (by simp; omega) ?_; intro v8 w8 o8 m8 b8)
      have o9 : OwnB w8 B v8 (l ++ le (i + 1) n) := by
        rw [HSN.out, ← HC.out, ← List.append_assoc]; exact o8
      have g9 : Grew w v v8 w8 := (HG.out.still (Mod.alloc _ _ _)).step m8 b8
      clear o8 m8 b8
      go_wp2_with fail
      go_roundw
      case rel => exact ⟨i + 1, by omega, by go_num, o9, g9⟩
      case measure => simp [intOf]; omega
    · obtain rfl : i = size := by omega
      go_wp2
      go_ret
      exact ⟨_, rfl, ho, hg⟩

theorem pad_snoc {b : List UInt8} (h : b.length < 252) : pad (b ++ [0]) = pad b := by
  unfold pad
  rw [List.length_append, List.append_assoc]
  congr 1
  rw [show 252 - b.length = (252 - (b.length + 1)) + 1 by omega, List.replicate_succ]
  rfl
theorem pad_whole {b : List UInt8} (h : b.length = 252) : pad b = b := by
  unfold pad
  rw [h]; simp

set_option maxHeartbeats 1000000 in
set_option maxRecDepth 100000 in
theorem summed_any {w : World} {B : Nat} {v : Value} {l : List UInt8} (ho : OwnB w B v l) (hB : B ≤ w.heap.size) (hl : l.length ≤ 252) :
    Calls Try.prog 133 #[v] w fun e w' => ∃ v', e = .returned v' ∧ OwnB w' B v' (seal_ l) ∧ Mod (fun k => some k = v.ownBlock) w w' ∧ (∀ k, v'.ownBlock = some k → w.heap.size ≤ k) := by
  have HO := Lib.hid ho
  clear ho
  go_enter Try.func133, Try.ntmps133
  go_wp2_with fail
  go_loopw [0] (fun v0 wr => ∃ b : List UInt8, OwnB wr B v0 b ∧ b.length ≤ 252 ∧ pad b = pad l ∧ Grew w v v0 wr) (fun v0 _ => 252 - (match v0 with | .slice _ n _ => n | _ => 0))
  case atStart => exact ⟨l, HO.out, hl, rfl, Grew.refl _ _⟩
  case round =>
    obtain ⟨b, ho, hb, hp, hg⟩ := hrel
    obtain ⟨a0, c0, rfl, -, -, -⟩ := ho.shape
    have hsz := hg.1.size
    have HOO := Lib.hid ho
    have HP := Lib.hid hp
    have HG := Lib.hid hg
    clear ho hp hg
    by_cases hlt : b.length < 252
    · have hlt' : (b.length : Int) < 252 := by omega
      go_wp2_with (at_builtin; refine appB_at rfl _ _ rfl B (.slice a0 b.length c0) b rfl (HOO.out.mod (Mod.alloc (fun _ => False) _ _) (fun _ _ => id)) (some ⟨wr.heap.size, 0, none⟩) 1 1 [0] rfl rfl (fun e => by cases e) (bytesAt_new' rfl rfl) (by simp only [List.length_cons, List.length_nil]; omega) (by simp; omega) ?_; intro v8 w8 o8 m8 b8)
      have g9 : Grew w v v8 w8 := (HG.out.still (Mod.alloc _ _ _)).step m8 b8
      obtain ⟨a8, c8, rfl, -, -, -⟩ := o8.shape
      have O8 := Lib.hid o8
      have hp8 : pad (b ++ [0]) = pad l := (pad_snoc hlt).trans HP.out
      have HP8 := Lib.hid hp8
      clear o8 m8 b8 hp8
      go_wp2_with fail
      go_roundw
      case rel => exact ⟨b ++ [0], O8.out, by simp; omega, HP8.out, g9⟩
      case measure => simp; omega
    · have hb252 : b.length = 252 := by omega
      have hbl : b = pad l := by rw [← HP.out]; exact (pad_whole hb252).symm
      subst hbl
      have hbb := (HOO.out.shape)
      obtain ⟨a1, c1, e1, -, -, hb1⟩ := hbb
      cases e1
      have ha1 : a0 = none → c0 = 0 := fun e => by
        subst e
        rcases HOO.out.2 with ⟨h1, h2⟩ | ⟨g', cap, cur, h1, -⟩
        · injection h1
        · injection h1 with h3; cases h3
      have KS := rsum_any a0 (pad l) _ c0 wr rfl (by omega) hb1
      have hcl : ((crc (pad l)).toNat : Int) < 18446744073709551616 := by have := (crc (pad l)).isLt; omega
      have hw : IntKind.u64.wrap ((crc (pad l)).toNat : Int) = ((crc (pad l)).toNat : Int) := IntWalk.u64_in _ (by omega)
      have KN := number_any (OwnB.nil wr B) (by omega) (by decide) (crc (pad l)).toNat 4 (by decide)
      rw [List.nil_append] at KN
      replace KS := Lib.hid KS
      replace KN := Lib.hid KN
      have HB1 := Lib.hid hb1
      have hb252' : (252 : Int) ≤ ((pad l).length : Int) := by omega
      have hb253 : (pad l).length ≤ 252 := hb
      clear hb1 hcl hb252 hlt
      go_wp2_with fail
      refine KS.out.mono ?_
      rintro e w' ⟨rfl, rfl⟩
      go_wp2_with fail
      refine KN.out.mono ?_
      rintro e w5 ⟨v5, rfl, o5, g5⟩
      obtain ⟨a5, c5, rfl, -, -, -⟩ := o5.shape
      have m5 : Mod (fun _ => False) wr w5 := g5.1.mono (fun k _ e => by simp [Value.ownBlock] at e)
      have hb5 := HB1.out.mod m5 (fun _ _ _ => id)
      have O5 := Lib.hid o5
      have G5 := Lib.hid g5
      clear o5 g5 KS KN hw
      go_wp2_with (at_builtin; refine appB_at rfl _ _ rfl B (.slice a5 _ c5) (le 4 (crc (pad l)).toNat) rfl O5.out a0 _ c0 (pad l) rfl rfl ha1 hb5 (by rw [le_length]; omega) (by have := m5.size; omega) ?_; intro v8 w8 o8 m8 b8)
      have g8 := G5.out.step m8 b8
      have gm : Mod (fun k => some k = v.ownBlock) w w8 := HG.out.1.trans g8.1 (fun k hk e => by simp [Value.ownBlock] at e)
      have gb : ∀ k, v8.ownBlock = some k → w.heap.size ≤ k := fun k hk => by
        rcases g8.2 k hk with e | e
        · simp [Value.ownBlock] at e
        · omega
      have O8 := Lib.hid o8
      clear o8 m8 b8 g8
      go_wp2
      go_ret
      exact ⟨_, rfl, O8.out, gm, gb⟩

set_option maxHeartbeats 2000000 in
set_option maxRecDepth 100000 in
theorem rslot_any {w : World} (R : Rt) (hR : R.ok) (a : Option Addr) (n cap : Nat) (hn : R.mt.length = n) (ha : a = none → cap = 0) (hb : BytesAt w a R.mt) (C : Nat) (hC : C ≤ w.heap.size) :
    Calls Try.prog 135 #[rootV R (.slice a n cap)] w fun e w' => ∃ v, e = .returned v ∧ OwnB w' C v (slotB R) ∧ Mod (fun _ => False) w w' ∧ (∀ k, v.ownBlock = some k → w.heap.size ≤ k) := by
  subst hn
  unfold rootV
  obtain ⟨g1, p1, n1, m1⟩ := R
  have z1 := hR.gen
  have z2 := hR.page
  have z3 := hR.next
  have z4 := hR.mt
  dsimp only at *
  obtain ⟨pn, hpn⟩ : ∃ pn : Nat, p1 + 1 = (pn : Int) := ⟨(p1 + 1).toNat, by omega⟩
  have e1 : IntKind.u64.wrap (g1 : Int) = (g1 : Int) := IntWalk.u64_in _ (by omega)
  have e2 : IntKind.i64.wrap (p1 + 1) = (pn : Int) := by rw [hpn]; exact IntWalk.i64_in _ (by omega)
  have e3 : IntKind.u64.wrap (pn : Int) = (pn : Int) := IntWalk.u64_in _ (by omega)
  have e4 : IntKind.u64.wrap (n1 : Int) = (n1 : Int) := IntWalk.u64_in _ (by omega)
  obtain ⟨c, hc⟩ : ∃ c, c = UInt8.ofNat m1.length := ⟨_, rfl⟩
  have e5 : IntKind.u8.wrap (m1.length : Int) = (c.toNat : Int) := by
    rw [hc, UInt8.toNat_ofNat', IntKind.wrap_u8]
    norm_cast
  have hpt : (p1 + 1).toNat = pn := by omega
  have hsl : slotB ⟨g1, p1, n1, m1⟩ = seal_ ((((le 8 g1 ++ le 4 pn) ++ le 8 n1) ++ [c]) ++ m1) := by
    unfold slotB slotPre
    dsimp only
    rw [hpt, ← hc]
  rw [hsl]
  have HPN := Lib.hid hpn
  obtain ⟨W1, hW1⟩ : ∃ W1, W1 = w.alloc (.cells #[.int .i64 (g1 : Int), .int .i64 p1, .int .i64 (n1 : Int), .slice a m1.length cap] 108) := ⟨_, rfl⟩
  have k1 : W1.heap[w.heap.size]? = some (.cells #[.int .i64 (g1 : Int), .int .i64 p1, .int .i64 (n1 : Int), .slice a m1.length cap] 108 (0, 0)) := by rw [hW1]; exact heap_alloc_new _ _
  have mm : Mod (fun _ => False) w W1 := by rw [hW1]; exact Mod.alloc _ _ _
  have hb1 := hb.mod mm (fun _ _ _ => id)
  have HB1 := Lib.hid hb1
  have K1 := Lib.hid k1
  have MM := Lib.hid mm
  have HW := Lib.hid hW1
  have hz1 := mm.size
  have KN := number_any (OwnB.nil W1 C) (by omega) (by decide) g1 8 (by decide)
  rw [List.nil_append] at KN
  replace KN := Lib.hid KN
  clear hpn hc hpt hsl hb hb1 k1 mm hW1
  go_enter Try.func135, Try.ntmps135
  go_upto_region 1 with fail
  rw [← HW.out]
  obtain ⟨kb, hkb⟩ : ∃ kb, kb = w.heap.size := ⟨_, rfl⟩
  rw [← hkb]
  have HKB := Lib.hid hkb
  have CC : ∀ w', Mod (fun _ => False) W1 w' → w'.cell? ⟨kb, 0, none⟩ = some (.int .i64 (g1 : Int)) ∧ w'.cell? ⟨kb, 1, none⟩ = some (.int .i64 p1) ∧ w'.cell? ⟨kb, 2, none⟩ = some (.int .i64 (n1 : Int)) ∧ w'.cell? ⟨kb, 3, none⟩ = some (.slice a m1.length cap) := fun w' hm => by
    have hc := fun j => cell_of_row w' kb j _ 108 (0, 0) (hm.obj (by rw [hkb]; exact K1.out) id)
    exact ⟨hc 0, hc 1, hc 2, hc 3⟩
  obtain ⟨x0, x1, x2, x3⟩ := CC W1 (Mod.refl _ _)
  have HCC := Lib.hid CC
  clear hkb CC
  go_wp2_with fail
  refine KN.out.mono ?_
  rintro e w2 ⟨v2, rfl, o2, g2⟩
  have m2 : Mod (fun _ => False) W1 w2 := g2.1.mono (fun k _ e => by simp [Value.ownBlock] at e)
  obtain ⟨y0, y1, y2, y3⟩ := HCC.out w2 m2
  have hz2 := m2.size
  have KN2 := number_any o2 (by omega) (by rw [le_length]; decide) pn 4 (by decide)
  replace KN2 := Lib.hid KN2
  have G2 := Lib.hid g2
  clear x0 x1 x2 x3 KN o2 g2 m2
  go_wp2_with fail
  refine KN2.out.mono ?_
  rintro e w3 ⟨v3, rfl, o3, g3⟩
  have g3' := G2.out.trans g3
  have m3 : Mod (fun _ => False) W1 w3 := g3'.1.mono (fun k _ e => by simp [Value.ownBlock] at e)
  obtain ⟨x0, x1, x2, x3⟩ := HCC.out w3 m3
  have hz3 := m3.size
  have KN3 := number_any o3 (by omega) (by rw [List.length_append, le_length, le_length]; decide) n1 8 (by decide)
  replace KN3 := Lib.hid KN3
  have G3 := Lib.hid g3'
  clear y0 y1 y2 y3 KN2 o3 g3 g3' m3 G2
  go_wp2_with fail
  refine KN3.out.mono ?_
  rintro e w4 ⟨v4, rfl, o4, g4⟩
  have g4' := G3.out.trans g4
  have m4 : Mod (fun _ => False) W1 w4 := g4'.1.mono (fun k _ e => by simp [Value.ownBlock] at e)
  obtain ⟨y0, y1, y2, y3⟩ := HCC.out w4 m4
  have hz4 := m4.size
  have G4 := Lib.hid g4'
  have O4 := Lib.hid o4
  clear x0 x1 x2 x3 KN3 o4 g4 g4' m4 G3
  go_upto_region 5 with (at_builtin; refine appB_at rfl _ _ rfl C v4 _ rfl (O4.out.mod (Mod.alloc (fun _ => False) _ _) (fun _ _ => id)) (some ⟨w4.heap.size, 0, none⟩) 1 1 [c] rfl rfl (fun e => by cases e) (bytesAt_new' rfl rfl) (by simp [le_length]) (by simp; omega) ?_; intro v5 w5 o5 mm5 b5)
  have g5 := (G4.out.still (Mod.alloc (fun _ => False) w4 _)).step mm5 b5
  have m5 : Mod (fun _ => False) W1 w5 := g5.1.mono (fun k _ e => by simp [Value.ownBlock] at e)
  obtain ⟨x0, x1, x2, x3⟩ := HCC.out w5 m5
  have hz5 := m5.size
  have hb5 := HB1.out.mod m5 (fun _ _ _ => id)
  have G5 := Lib.hid g5
  have O5 := Lib.hid o5
  have HB5 := Lib.hid hb5
  clear y0 y1 y2 y3 o5 g5 mm5 b5 m5 hb5 G4 O4
  go_upto_region 6 with (at_builtin; refine appB_at rfl _ _ rfl C v5 _ rfl O5.out a _ cap m1 rfl rfl ha HB5.out (by simp [le_length]; omega) (by omega) ?_; intro v6 w6 o6 mm6 b6)
  have g6 := G5.out.step mm6 b6
  have m6 : Mod (fun _ => False) W1 w6 := g6.1.mono (fun k _ e => by simp [Value.ownBlock] at e)
  have hz6 := m6.size
  have hv6 : ∀ k, v6.ownBlock = some k → W1.heap.size ≤ k := fun k hk => (g6.2 k hk).elim (fun e => by simp [Value.ownBlock] at e) id
  have KF := summed_any o6 (by omega) (by simp [le_length]; omega)
  replace KF := Lib.hid KF
  have M6 := Lib.hid m6
  have HV6 := Lib.hid hv6
  clear x0 x1 x2 x3 o6 g6 mm6 b6 m6 hv6 G5 O5 HB5
  go_wp2_with fail
  refine KF.out.mono ?_
  rintro e w7 ⟨v7, rfl, o7, m7, b7⟩
  have O7 := Lib.hid o7
  have hmw : Mod (fun _ => False) w w7 := (MM.out.trans' M6.out).trans m7 (fun k hk e => by have := HV6.out k e.symm; omega)
  have hb7 : ∀ k, v7.ownBlock = some k → w.heap.size ≤ k := fun k hk => by have := b7 k hk; omega
  clear o7 m7 b7 KF
  go_wp2
  go_ret
  exact ⟨_, rfl, O7.out, hmw, hb7⟩
end Go.Proofs.Ytdinnkacilgmmaa
namespace Go.Proofs.Ytdinnkacilgmmaa
open Go.RowKit

theorem set4' {w : World} {b : Nat} {y0 y1 y2 y3 : Value} (h : w.heap[b]? = some (.cells #[y0, y1, y2, y3] 108 (0, 0))) (x0 x1 x2 x3 : Value) :
    ((((w.setCell ⟨b, 0, none⟩ x0).setCell ⟨b, 1, none⟩ x1).setCell ⟨b, 2, none⟩ x2).setCell ⟨b, 3, none⟩ x3).heap[b]? = some (.cells #[x0, x1, x2, x3] 108 (0, 0)) :=
  setCell_block (setCell_block (setCell_block (setCell_block h x0) x1) x2) x3
theorem results_108b {fn : Func} {p t : Tmp} {b : Nat} {v x : Value} (h : fn.results = #[.cell p 108, .tmp t]) (tmps : Array Value) (w : World) (hp : tmps.getD p undef = .pointer (some ⟨b, 0, none⟩)) (hc : RtCell w b v) (ht : tmps.getD t undef = x) :
    (results fn tmps).run Try.prog w = .ok (.tuple #[v, x]) w := by
  obtain ⟨x0, x1, x2, x3, rfl, h0, h1, h2, h3⟩ := hc
  simp only [results, h]
  have hp' : tmps[p]?.getD undef = .pointer (some ⟨b, 0, none⟩) := by simpa using hp
  have ht' : tmps[t]?.getD undef = x := by simpa using ht
  simp [hp', ht', asAddr, go_sem, h0, h1, h2, h3]

set_option maxHeartbeats 2000000 in
set_option maxRecDepth 100000 in
theorem rback5_any {w : World} {B g cap : Nat} {s : List UInt8} (ho : OwnB w B (.slice (some ⟨g, 0, none⟩) 256 cap) s) (hsl : s.length = 256) (hle : 256 ≤ cap) (pages : Nat) (hpg : pages ≤ 4096) :
    Calls Try.prog 132 #[.slice (some ⟨g, 0, none⟩) 256 cap, .int .i64 (pages : Int)] w fun e w' => SlotSaid (rootOf pages s) w.heap.size e w' ∧ Mod (fun _ => False) w w' := by
  obtain ⟨o, hoo⟩ : ∃ o, o = rootOf pages s := ⟨_, rfl⟩
  rw [← hoo]
  have HO1 := Lib.hid hoo
  obtain ⟨W1, hW1⟩ : ∃ W1, W1 = w.alloc (.cells #[.int .i64 0, .int .i64 0, .int .i64 0, .slice none 0 0] 108) := ⟨_, rfl⟩
  have m1 : Mod (fun _ => False) w W1 := by rw [hW1]; exact Mod.alloc _ _ _
  have kb : W1.heap[w.heap.size]? = some (.cells #[.int .i64 0, .int .i64 0, .int .i64 0, .slice none 0 0] 108 (0, 0)) := by rw [hW1]; exact heap_alloc_new _ _
  have ob := ho.mod m1 (fun _ _ => id)
  have hgw := (World.ownsRow.lt ho g rfl).2
  have hbs := (OwnB.bytes ob).2
  have b0 := hbs.sub 0 4
  have b4 := hbs.sub 4 252
  rw [List.drop_zero, Nat.add_zero] at b0
  rw [Nat.zero_add, List.take_of_length_le (by rw [List.length_drop, hsl]; decide)] at b4
  have L0 : (s.take 4).length = 4 := by rw [List.length_take, hsl]; decide
  have L4 : (s.drop 4).length = 252 := by rw [List.length_drop, hsl]
  have KA : ∀ w', Mod (fun _ => False) W1 w' → Calls Try.prog 137 #[.slice (some ⟨g, 0, none⟩) 4 cap] w' fun e w'' => e = .returned (.int .u64 (unle (s.take 4) : Int)) ∧ w' = w'' := fun w' hm =>
    rread_le (some ⟨g, 0, none⟩) (s.take 4) 4 cap w' L0 (b0.mod hm (fun _ _ _ => id)) (by omega)
  have KB : ∀ w', Mod (fun _ => False) W1 w' → Calls Try.prog 138 #[.slice (some ⟨g, 4, none⟩) 252 (cap - 4)] w' fun e w'' => e = .returned (.int .u32 ((crc (s.drop 4)).toNat : Int)) ∧ w' = w'' := fun w' hm =>
    rsum_any (some ⟨g, 4, none⟩) (s.drop 4) 252 (cap - 4) w' L4 (by omega) (b4.mod hm (fun _ _ _ => id))
  have hA := unle_lt (s.take 4)
  rw [L0] at hA
  have hX := (crc (s.drop 4)).isLt
  have hsd : sound s = decide (unle (s.take 4) = (crc (s.drop 4)).toNat) := rfl
  have HSL := Lib.hid hsl
  have HOB := Lib.hid ob
  have HM1 := Lib.hid m1
  have KBk := Lib.hid kb
  have HW := Lib.hid hW1
  have KAh := Lib.hid KA
  have KBh := Lib.hid KB
  have hcap4 : ¬ (cap = 4) := by omega
  have hcap4' : (4 : Int) ≤ (cap : Int) := by omega
  obtain ⟨kr, hkr⟩ : ∃ kr, kr = w.heap.size := ⟨_, rfl⟩
  have HKR := Lib.hid hkr
  clear hoo ho m1 kb ob hbs b0 b4 L0 L4 KA KB hW1 hsl
  generalize unle (s.take 4) = A at *
  generalize (crc (s.drop 4)).toNat = X0 at *
  have HSD := Lib.hid hsd
  have wX : IntKind.u64.wrap (X0 : Int) = (X0 : Int) := IntWalk.u64_in _ (by omega)
  clear hsd
  go_enter Try.func132, Try.ntmps132
  go_upto_region 1 with fail
  rw [← HW.out, ← HKR.out]
  clear hkr
  go_cut [18] (fun v18 wx => v18 = .bool (!sound s) ∧ Mod (fun _ => False) W1 wx)
  case first =>
    have mdr : Mod (fun _ => False) W1 W1.drew := Mod.drew _ _
    refine wp_region_held_drew (S := fun w' => Mod (fun _ => False) W1 w') (by kernel_rfl) (mdr) (fun hHeld => ?_)
    refine wpAnyH_take (i := 0) (oi := ⟨some 11, .move (.tmp 0), 22, "ref.go:67", #[], none⟩) (v := ?_) rfl (by kernel_rfl) (by kernel_rfl) (by kernel_rfl) (fun _ _ _ h => h) (Or.inl ⟨by rfl, ?_⟩) (by assumption) ?_
    rotate_left
    · (intro w hSw; (try dsimp only at hSw); go_simp; try with_reducible rfl)
    simp only [Act.put, List.setIfInBounds_toArray, List.set_cons_zero, List.set_cons_succ]
    refine wpAnyH_take (i := 1) (oi := ⟨some 12, .slice 22 (.tmp 11) none (some (.const (.int .i64 4))) none, 22, "ref.go:67", #[⟨0, .data⟩], none⟩) (v := ?_) rfl (by kernel_rfl) (by kernel_rfl) (by kernel_rfl) (fun _ _ _ h => h) (Or.inl ⟨by rfl, ?_⟩) (by assumption) ?_
    rotate_left
    · (intro w hSw; (try dsimp only at hSw); go_simp; try with_reducible rfl)
    simp only [Act.put, List.setIfInBounds_toArray, List.set_cons_zero, List.set_cons_succ]
    refine wpAnyH_take (i := 3) (oi := ⟨some 14, .move (.tmp 0), 22, "ref.go:67", #[], none⟩) (v := ?_) rfl (by kernel_rfl) (by kernel_rfl) (by kernel_rfl) (fun _ _ _ h => h) (Or.inl ⟨by rfl, ?_⟩) (by assumption) ?_
    rotate_left
    · (intro w hSw; (try dsimp only at hSw); go_simp; try with_reducible rfl)
    simp only [Act.put, List.setIfInBounds_toArray, List.set_cons_zero, List.set_cons_succ]
    refine wpAnyH_take (i := 4) (oi := ⟨some 15, .slice 22 (.tmp 14) (some (.const (.int .i64 4))) none none, 22, "ref.go:67", #[⟨3, .data⟩], none⟩) (v := ?_) rfl (by kernel_rfl) (by kernel_rfl) (by kernel_rfl) (fun _ _ _ h => h) (Or.inl ⟨by rfl, ?_⟩) (by assumption) ?_
    rotate_left
    · (intro w hSw; (try dsimp only at hSw); go_simp; try with_reducible rfl)
    simp only [Act.put, List.setIfInBounds_toArray, List.set_cons_zero, List.set_cons_succ]
    refine held_call (i := 2) (oi := ⟨some 13, .call { callee := .value (.func 137), args := #[.tmp 12], argTypes := #[22] }, 142, "ref.go:67", #[⟨1, .data⟩], none⟩) (v := (.int .u64 (A : Int))) rfl (by kernel_rfl) (by kernel_rfl) (by kernel_rfl) (fun _ _ _ h => h) (by assumption) 137 #[.slice (some ⟨g, 0, none⟩) 4 cap] (by rfl) (fun w => by go_simp) (fun w hSw => KAh.out _ hSw) ?_
    simp only [Act.put, List.setIfInBounds_toArray, List.set_cons_zero, List.set_cons_succ]
    refine held_call (i := 5) (oi := ⟨some 16, .call { callee := .value (.func 138), args := #[.tmp 15], argTypes := #[22] }, 23, "ref.go:67", #[⟨4, .data⟩, ⟨2, .chain⟩], none⟩) (v := (.int .u32 (X0 : Int))) rfl (by kernel_rfl) (by kernel_rfl) (by kernel_rfl) (fun _ _ _ h => h) (by assumption) 138 #[.slice (some ⟨g, 4, none⟩) 252 (cap - 4)] (by rfl) (fun w => by go_simp) (fun w hSw => KBh.out _ hSw) ?_
    simp only [Act.put, List.setIfInBounds_toArray, List.set_cons_zero, List.set_cons_succ]
    refine wpAnyH_take (i := 6) (oi := ⟨some 17, .convert 23 142 (.tmp 16), 142, "ref.go:67", #[⟨5, .data⟩], none⟩) (v := ?_) rfl (by kernel_rfl) (by kernel_rfl) (by kernel_rfl) (fun _ _ _ h => h) (Or.inl ⟨by rfl, ?_⟩) (by assumption) ?_
    rotate_left
    · (intro w hSw; (try dsimp only at hSw); go_simp; try with_reducible rfl)
    simp only [Act.put, List.setIfInBounds_toArray, List.set_cons_zero, List.set_cons_succ]
    refine wpAnyH_take (i := 7) (oi := ⟨some 18, .binOp .neq 142 (.tmp 13) (.tmp 17) 142, 4, "ref.go:67", #[⟨2, .data⟩, ⟨6, .data⟩], none⟩) (v := ?_) rfl (by kernel_rfl) (by kernel_rfl) (by kernel_rfl) (fun _ _ _ h => h) (Or.inl ⟨by rfl, ?_⟩) (by assumption) ?_
    rotate_left
    · (intro w hSw; (try dsimp only at hSw); go_simp; try with_reducible rfl)
    simp only [Act.put, List.setIfInBounds_toArray, List.set_cons_zero, List.set_cons_succ]
    refine wpAnyH_done (by kernel_rfl) ?_ _
    go_wp2_with fail
    go_meet
    exact ⟨congrArg Value.bool (by rw [HSD.out]; by_cases h : A = X0 <;> simp [h]; omega), mdr⟩

  case rest =>
    obtain ⟨rfl, mc⟩ := hcut
    have kc := mc.obj KBk.out id
    rw [← HKR.out] at kc
    have hcc := fun j => cell_of_row wc kr j _ 108 (0, 0) kc
    have e0 := hcc 0
    have e1 := hcc 1
    have e2 := hcc 2
    have e3 := hcc 3
    simp only [List.getElem?_toArray, List.getElem?_cons_zero, List.getElem?_cons_succ] at e0 e1 e2 e3
    have g0 := thaw_of (i := 0) kc
    have g1 := thaw_of (i := 1) kc
    have g2 := thaw_of (i := 2) kc
    have g3 := thaw_of (i := 3) kc
    have KC := Lib.hid kc
    have MC := Lib.hid (HM1.out.trans' mc)
    have OC := Lib.hid (HOB.out.mod mc (fun _ _ => id))
    have hkl : ∀ i, i < w.heap.size → i = kr → False := fun i h1 h2 => by have := HKR.out; omega
    have HKL := Lib.hid hkl
    clear kc hcc mc KAh KBh wX hkl
    cases hs : sound s
    · have hno : o = none := by rw [HO1.out]; unfold rootOf; rw [if_neg]; rintro ⟨h, -⟩; rw [hs] at h; cases h
      have HNO := Lib.hid hno
      clear hno hs
      go_wp2
      have k5 := set4' KC.out (.int .i64 0) (.int .i64 0) (.int .i64 0) (.slice none 0 0)
      refine bodyPost_ret (results_108b rfl _ _ rfl (RtCell.of k5) rfl) rfl ⟨.inl ⟨HNO.out, rfl⟩, MC.out.trans (mod4 (F := fun k => k = kr) _ _ rfl _ _ _ _) (fun k hk e => HKL.out k hk e)⟩
    · have hbs := (OwnB.bytes OC.out).2
      have b1 := (hbs.sub 4 8)
      have b2 := (hbs.sub 12 4)
      have b3 := (hbs.sub 16 8)
      have x24 := (OC.out.cellAt 24 (by rw [HSL.out]; decide)).1
      have hg24 : s.getD 24 0 = s[24]'(by rw [HSL.out]; decide) := by simp [List.getD_eq_getElem?_getD, List.getElem?_eq_getElem (show 24 < s.length by rw [HSL.out]; decide)]
      rw [← hg24] at x24
      have ho := HO1.out
      unfold rootOf at ho
      have L1 : ((s.drop 4).take 8).length = 8 := by rw [List.length_take, List.length_drop, HSL.out]; decide
      have L2 : ((s.drop 12).take 4).length = 4 := by rw [List.length_take, List.length_drop, HSL.out]; decide
      have L3 : ((s.drop 16).take 8).length = 8 := by rw [List.length_take, List.length_drop, HSL.out]; decide
      have u1 := unle_lt ((s.drop 4).take 8)
      have u2 := unle_lt ((s.drop 12).take 4)
      have u3 := unle_lt ((s.drop 16).take 8)
      rw [L1] at u1
      rw [L2] at u2
      rw [L3] at u3
      rw [Nat.zero_add] at b1 b2 b3
      have K1 := rread_le (some ⟨g, 4, none⟩) _ 8 (cap - 4) wc L1 b1 (by rw [L1]; decide)
      have K2 := rread_le (some ⟨g, 12, none⟩) _ 4 (cap - 12) wc L2 b2 (by rw [L2]; decide)
      have K3 := rread_le (some ⟨g, 16, none⟩) _ 8 (cap - 16) wc L3 b3 (by rw [L3]; decide)
      have hbm := hbs.sub 25 (s.getD 24 0).toNat
      rw [Nat.zero_add] at hbm
      have HBM := Lib.hid hbm
      have hlm : (s.getD 24 0).toNat ≤ 100 → ((s.drop 25).take (s.getD 24 0).toNat).length = (s.getD 24 0).toNat := fun h => by rw [List.length_take, List.length_drop, HSL.out]; omega
      have HLM := Lib.hid hlm
      replace K1 := Lib.hid K1
      replace K2 := Lib.hid K2
      replace K3 := Lib.hid K3
      clear hbs b1 b2 b3 L1 L2 L3 hg24 hbm hlm
      generalize unle ((s.drop 4).take 8) = X at *
      generalize unle ((s.drop 12).take 4) = Y at *
      generalize unle ((s.drop 16).take 8) = Z at *
      generalize s.getD 24 0 = f at *
      have HO := Lib.hid ho
      clear ho HO1
      have hne12 : ¬ (cap = 12) := by omega
      have hne16 : ¬ (cap = 16) := by omega
      have hne25 : ¬ (cap = 25) := by omega
      have h12 : (12 : Int) ≤ (cap : Int) := by omega
      have h16 : (16 : Int) ≤ (cap : Int) := by omega
      have h24 : (24 : Int) ≤ (cap : Int) := by omega
      have wf : IntKind.i64.wrap (f.toNat : Int) = (f.toNat : Int) := IntWalk.i64_in _ (by have := f.toNat_lt; omega)
      have wp : IntKind.u64.wrap (pages : Int) = (pages : Int) := IntWalk.u64_in _ (by omega)
      go_wp2_with fail
      refine K1.out.mono ?_
      rintro e w' ⟨rfl, rfl⟩
      go_wp2_with fail
      refine K2.out.mono ?_
      rintro e w' ⟨rfl, rfl⟩
      go_wp2_with fail
      refine K3.out.mono ?_
      rintro e w' ⟨rfl, rfl⟩
      have C24 := Lib.hid x24
      clear K1 K2 K3
      by_cases hok : 1 ≤ X ∧ X ≤ 1152921504606846976 ∧ Y ≤ pages ∧ 1 ≤ Z ∧ Z ≤ 1152921504606846976 ∧ f.toNat ≤ 100
      · obtain ⟨h1, h2, h3, h4, h5, h6⟩ := hok
        have hyes : o = some ⟨X, (Y : Int) - 1, Z, (s.drop 25).take f.toNat⟩ := by rw [HO.out, if_pos ⟨hs, h1, h2, h3, h4, h5, h6⟩]
        have HYES := Lib.hid hyes
        have hlm := HLM.out h6
        clear hyes hs HLM
        have a1 : ¬ (X : Int) < 1 := by omega
        have a2 : ¬ 1152921504606846976 < (X : Int) := by omega
        have a3 : ¬ (pages : Int) < (Y : Int) := by omega
        have a4 : ¬ (Z : Int) < 1 := by omega
        have a5 : ¬ 1152921504606846976 < (Z : Int) := by omega
        have a6 : ¬ (100 : Int) < (f.toNat : Int) := by omega
        have w1' : IntKind.i64.wrap (X : Int) = (X : Int) := IntWalk.i64_in _ (by omega)
        have w2' : IntKind.i64.wrap (Y : Int) = (Y : Int) := IntWalk.i64_in _ (by omega)
        have w3' : IntKind.i64.wrap (Z : Int) = (Z : Int) := IntWalk.i64_in _ (by omega)
        have w4' : IntKind.i64.wrap ((Y : Int) - 1) = (Y : Int) - 1 := IntWalk.i64_in _ (by omega)
        have w5' : IntKind.i64.wrap (25 + (f.toNat : Int)) = 25 + (f.toNat : Int) := IntWalk.i64_in _ (by omega)
        clear HO
        generalize (s.drop 25).take f.toNat = mt at *
        have HLM := Lib.hid hlm
        clear hlm h1 h2 h3 h4 h5 h6
        have k1 : (0 : Int) ≤ 25 + (f.toNat : Int) := by omega
        have k2 : (25 : Int) + (f.toNat : Int) ≤ (cap : Int) := by omega
        have k3 : (25 : Int) ≤ 25 + (f.toNat : Int) := by omega
        have k4 : ((25 : Int) + (f.toNat : Int)).toNat = 25 + f.toNat := by omega
        go_upto_region 10 with fail
        obtain ⟨W5, hW5⟩ : ∃ W5, W5 = wc.alloc (.cells #[.int .i64 (X : Int), .int .i64 ((Y : Int) - 1), .int .i64 (Z : Int), .slice none 0 0] 108) := ⟨_, rfl⟩
        rw [← hW5]
        have m5 : Mod (fun _ => False) wc W5 := by rw [hW5]; exact Mod.alloc _ _ _
        have kq5 : W5.heap[wc.heap.size]? = some (.cells #[.int .i64 (X : Int), .int .i64 ((Y : Int) - 1), .int .i64 (Z : Int), .slice none 0 0] 108 (0, 0)) := by rw [hW5]; exact heap_alloc_new _ _
        obtain ⟨kq, hkq⟩ : ∃ kq, kq = wc.heap.size := ⟨_, rfl⟩
        rw [← hkq] at kq5 ⊢
        have HKQ := Lib.hid hkq
        have KQ5 := Lib.hid kq5
        have M5 := Lib.hid m5
        have q3 := cell_of_row W5.drew kq 3 _ 108 (0, 0) kq5
        simp only [List.getElem?_toArray, List.getElem?_cons_zero, List.getElem?_cons_succ] at q3
        clear hW5 hkq kq5 m5 e0 e1 e2 e3 g0 g1 g2 g3 x24
        refine wp_region_held_drew (S := fun _ => True) (by kernel_rfl) (trivial) (fun hHeld => ?_)
        refine wpAnyH_take (i := 0) (oi := ⟨some 66, .fieldAddr 108 (.tmp 10) 3, 0, "ref.go:78", #[], none⟩) (v := ?_) rfl (by kernel_rfl) (by kernel_rfl) (by kernel_rfl) (fun _ _ _ h => h) (Or.inl ⟨by rfl, ?_⟩) (by assumption) ?_
        rotate_left
        · (intro w hSw; (try dsimp only at hSw); go_simp; try with_reducible rfl)
        simp only [Act.put, List.setIfInBounds_toArray, List.set_cons_zero, List.set_cons_succ]
        refine wpAnyH_take (i := 2) (oi := ⟨some 68, .move (.tmp 0), 22, "ref.go:78", #[], none⟩) (v := ?_) rfl (by kernel_rfl) (by kernel_rfl) (by kernel_rfl) (fun _ _ _ h => h) (Or.inl ⟨by rfl, ?_⟩) (by assumption) ?_
        rotate_left
        · (intro w hSw; (try dsimp only at hSw); go_simp; try with_reducible rfl)
        simp only [Act.put, List.setIfInBounds_toArray, List.set_cons_zero, List.set_cons_succ]
        refine wpAnyH_take (i := 3) (oi := ⟨some 69, .move (.tmp 9), 3, "ref.go:78", #[], none⟩) (v := ?_) rfl (by kernel_rfl) (by kernel_rfl) (by kernel_rfl) (fun _ _ _ h => h) (Or.inl ⟨by rfl, ?_⟩) (by assumption) ?_
        rotate_left
        · (intro w hSw; (try dsimp only at hSw); go_simp; try with_reducible rfl)
        simp only [Act.put, List.setIfInBounds_toArray, List.set_cons_zero, List.set_cons_succ]
        refine wpAnyH_take (i := 4) (oi := ⟨some 70, .binOp .add 3 (.const (.int .i64 25)) (.tmp 69) 3, 3, "ref.go:78", #[⟨3, .data⟩], none⟩) (v := ?_) rfl (by kernel_rfl) (by kernel_rfl) (by kernel_rfl) (fun _ _ _ h => h) (Or.inl ⟨by rfl, ?_⟩) (by assumption) ?_
        rotate_left
        · (intro w hSw; (try dsimp only at hSw); go_simp; try with_reducible rfl)
        simp only [Act.put, List.setIfInBounds_toArray, List.set_cons_zero, List.set_cons_succ]
        refine wpAnyH_take (i := 5) (oi := ⟨some 71, .slice 22 (.tmp 68) (some (.const (.int .i64 25))) (some (.tmp 70)) none, 22, "ref.go:78", #[⟨2, .data⟩, ⟨4, .data⟩], none⟩) (v := ?_) rfl (by kernel_rfl) (by kernel_rfl) (by kernel_rfl) (fun _ _ _ h => h) (Or.inl ⟨by rfl, ?_⟩) (by assumption) ?_
        rotate_left
        · (intro w hSw; (try dsimp only at hSw); go_simp; try with_reducible rfl)
        simp only [Act.put, List.setIfInBounds_toArray, List.set_cons_zero, List.set_cons_succ]
        refine wpAnyH_ready (rs := [1]) (by kernel_rfl) (by simp) ?_
        refine AllReadyH.cons (o := ⟨some 67, .load 22 (.tmp 66), 22, "ref.go:78", #[⟨0, .data⟩], none⟩) rfl (fun K hK => ?_) AllReadyH.nil
        go_simp
        try simp only []
        refine hK.out _ _ (by assumption) (fun hHeld => ?_)
        clear hK K
        try simp only [Act.put, List.setIfInBounds_toArray, List.set_cons_zero, List.set_cons_succ]
        refine wpAnyH_ready (rs := [6]) (by kernel_rfl) (by simp) ?_
        refine AllReadyH.cons (o := ⟨some 72, .call { callee := .builtin .append, args := #[.tmp 67, .tmp 71], argTypes := #[22, 22] }, 22, "ref.go:78", #[⟨1, .data⟩, ⟨5, .data⟩], none⟩) rfl (fun K hK => ?_) AllReadyH.nil
        refine appB_step rfl _ _ rfl w.heap.size (.slice none 0 0) [] rfl (OwnB.nil _ _) (some ⟨g, 25, none⟩) _ _ mt rfl HLM.out (fun e => by cases e) (HBM.out.mod (M5.out.trans' (Mod.drew _ _)) (fun _ _ _ => id)) (by rw [HLM.out]; simp; omega) (by have := M5.out.size; have := MC.out.size; show w.heap.size ≤ W5.drew.heap.size; exact Nat.le_trans (Nat.le_trans MC.out.size M5.out.size) (Mod.drew (fun _ => False) W5).size) ?_
        intro v3 w3 o3 mo3 _
        have m3 : Mod (fun _ => False) W5 w3 := (Mod.drew (fun _ => False) W5).trans' (mo3.mono (fun k _ e => by simp [Value.ownBlock] at e))
        rw [List.nil_append] at o3
        obtain ⟨a3, c3, rfl, -, -, -⟩ := o3.shape
        have kq3 := m3.obj KQ5.out id
        have hq := fun j => cell_of_row w3 kq j _ 108 (0, 0) kq3
        have d0 := hq 0
        have d1 := hq 1
        have d2 := hq 2
        have d3 := hq 3
        simp only [List.getElem?_toArray, List.getElem?_cons_zero, List.getElem?_cons_succ] at d0 d1 d2 d3
        have t3 := thaw_of (i := 3) kq3
        have O3 := Lib.hid o3
        have KQ3 := Lib.hid kq3
        have M3 := Lib.hid m3
        clear o3 mo3 m3 kq3 hq
        refine hK.out _ _ (trivial) (fun _ => ?_)
        clear hK K
        try simp only [Act.put, List.setIfInBounds_toArray, List.set_cons_zero, List.set_cons_succ]
        refine wpAnyH_take (i := 7) (oi := ⟨some 73, .fieldAddr 108 (.tmp 10) 3, 0, "ref.go:78", #[⟨0, .phase⟩, ⟨1, .phase⟩, ⟨2, .phase⟩, ⟨3, .phase⟩, ⟨4, .phase⟩, ⟨5, .phase⟩, ⟨6, .phase⟩], none⟩) (v := ?_) rfl (by kernel_rfl) (by kernel_rfl) (by kernel_rfl) (fun _ _ _ h => h) (Or.inl ⟨by rfl, ?_⟩) (by assumption) ?_
        rotate_left
        · (intro w hSw; (try dsimp only at hSw); go_simp; try with_reducible rfl)
        simp only [Act.put, List.setIfInBounds_toArray, List.set_cons_zero, List.set_cons_succ]
        refine wpAnyH_ready (rs := [8]) (by kernel_rfl) (by simp) ?_
        refine AllReadyH.cons (o := ⟨none, .store 22 (.tmp 73) (.tmp 72), 0, "ref.go:78", #[⟨7, .data⟩, ⟨6, .data⟩, ⟨6, .chain⟩, ⟨0, .phase⟩, ⟨1, .phase⟩, ⟨2, .phase⟩, ⟨3, .phase⟩, ⟨4, .phase⟩, ⟨5, .phase⟩, ⟨6, .phase⟩], none⟩) rfl (fun K hK => ?_) AllReadyH.nil
        go_simp
        try simp only []
        refine hK.out _ _ (trivial) (fun _ => ?_)
        clear hK K
        try simp only [Act.put, List.setIfInBounds_toArray, List.set_cons_zero, List.set_cons_succ]
        refine wpAnyH_done (by kernel_rfl) ?_ _
        obtain ⟨W8, hW8⟩ : ∃ W8, W8 = w3.setCell ⟨kq, 3, none⟩ (.slice a3 mt.length c3) := ⟨_, rfl⟩
        rw [← hW8]
        have m8 : Mod (fun k => k = kq) w3 W8 := by rw [hW8]; exact Mod.setCell _ _ _ rfl
        have kq8 : W8.heap[kq]? = some (.cells #[.int .i64 (X : Int), .int .i64 ((Y : Int) - 1), .int .i64 (Z : Int), .slice a3 mt.length c3] 108 (0, 0)) := by rw [hW8]; exact setCell_block KQ3.out _
        have hzc := lt_of_block KC.out
        have hne : ¬ kr = kq := by have := HKQ.out; omega
        have kr8 := m8.obj (M3.out.obj (M5.out.obj KC.out id) id) hne
        have hq := fun j => cell_of_row W8 kq j _ 108 (0, 0) kq8
        have d0 := hq 0
        have d1 := hq 1
        have d2 := hq 2
        have d3 := hq 3
        have hr := fun j => cell_of_row W8 kr j _ 108 (0, 0) kr8
        have e0 := hr 0
        have e1 := hr 1
        have e2 := hr 2
        have e3 := hr 3
        simp only [List.getElem?_toArray, List.getElem?_cons_zero, List.getElem?_cons_succ] at d0 d1 d2 d3 e0 e1 e2 e3
        have g0 := thaw_of (i := 0) kr8
        have g1 := thaw_of (i := 1) kr8
        have g2 := thaw_of (i := 2) kr8
        have g3 := thaw_of (i := 3) kr8
        have O8 := Lib.hid (O3.out.mod m8 (fun k hk e => by
          subst e
          obtain ⟨c, hc⟩ := own_type O3.out hk
          rw [KQ3.out] at hc
          injection hc with hc
          injection hc with _ h2
          cases h2))
        have KR8 := Lib.hid kr8
        have M8 := Lib.hid m8
        clear hW8 m8 kq8 kr8 hq hr t3
        go_wp2
        have k5 := set4' KR8.out (.int .i64 (X : Int)) (.int .i64 ((Y : Int) - 1)) (.int .i64 (Z : Int)) (.slice a3 mt.length c3)
        have hmw : Mod (fun k => k = kq) wc W8 := ((M5.out.trans' M3.out).mono (fun _ _ e => e.elim)).trans' M8.out
        have hm9 : Mod (fun _ => False) w W8 := MC.out.trans hmw (fun k hk e => by have := HKQ.out; have := MC.out.size; omega)
        refine bodyPost_ret (results_108b rfl _ _ rfl (RtCell.of k5) rfl) rfl ⟨.inr ⟨_, _, HYES.out, rfl, O8.out.mod (mod4 (F := fun k => k = kr) _ _ rfl _ _ _ _) (fun k hk e => ?_)⟩, hm9.trans (mod4 (F := fun k => k = kr) _ _ rfl _ _ _ _) (fun k hk e => HKL.out k hk e)⟩
        subst e
        obtain ⟨c, hc⟩ := own_type O8.out hk
        rw [KR8.out] at hc
        injection hc with hc
        injection hc with _ h2
        cases h2

      · have hno : o = none := by rw [HO.out, if_neg]; rintro ⟨-, h⟩; exact hok h
        have HNO := Lib.hid hno
        clear hno hs
        have hbad : (X : Int) < 1 ∨ (¬ (X : Int) < 1 ∧ 1152921504606846976 < (X : Int)) ∨ (¬ (X : Int) < 1 ∧ ¬ 1152921504606846976 < (X : Int) ∧ (pages : Int) < (Y : Int)) ∨
            (¬ (X : Int) < 1 ∧ ¬ 1152921504606846976 < (X : Int) ∧ ¬ (pages : Int) < (Y : Int) ∧ (Z : Int) < 1) ∨
            (¬ (X : Int) < 1 ∧ ¬ 1152921504606846976 < (X : Int) ∧ ¬ (pages : Int) < (Y : Int) ∧ ¬ (Z : Int) < 1 ∧ 1152921504606846976 < (Z : Int)) ∨
            (¬ (X : Int) < 1 ∧ ¬ 1152921504606846976 < (X : Int) ∧ ¬ (pages : Int) < (Y : Int) ∧ ¬ (Z : Int) < 1 ∧ ¬ 1152921504606846976 < (Z : Int) ∧ (100 : Int) < (f.toNat : Int)) := by omega
        clear hok
        rcases hbad with h1 | ⟨h1, h2⟩ | ⟨h1, h2, h3⟩ | ⟨h1, h2, h3, h4⟩ | ⟨h1, h2, h3, h4, h5⟩ | ⟨h1, h2, h3, h4, h5, h6⟩
        all_goals
          go_wp2
          have k5 := set4' KC.out (.int .i64 0) (.int .i64 0) (.int .i64 0) (.slice none 0 0)
          refine bodyPost_ret (results_108b rfl _ _ rfl (RtCell.of k5) rfl) rfl ⟨.inl ⟨HNO.out, rfl⟩, MC.out.trans (mod4 (F := fun k => k = kr) _ _ rfl _ _ _ _) (fun k hk e => HKL.out k hk e)⟩
end Go.Proofs.Ytdinnkacilgmmaa
namespace Go.Proofs.Ytdinnkacilgmmaa
open Go.RowKit

/-- what its pages are, as the reference has it -/
def isV (P : Pgr) (n : Nat) : Value := .int .i64 ((P.is_.getD n 0).toNat : Int)
def isVs (P : Pgr) : List Value := (List.range P.pages).map (isV P)
theorem isVs_length (P : Pgr) : (isVs P).length = P.pages := by simp [isVs]
theorem isVs_get (P : Pgr) (n : Nat) (h : n < P.pages) : (isVs P)[n]? = some (isV P n) := by simp [isVs, h]
theorem isVs_set (P : Pgr) (hl : P.is_.length = 4096) (hp : P.pages ≤ 4096) (n : Nat) (hn : n < P.pages) (c : UInt8) : (isVs P).set n (.int .i64 (c.toNat : Int)) = isVs { P with is_ := P.is_.set n c } := by
  apply List.ext_getElem?
  intro k
  rw [List.getElem?_set, isVs_length]
  by_cases e : n = k
  · subst e
    rw [if_pos rfl, if_pos hn]
    have := isVs_get { P with is_ := P.is_.set n c } n hn
    rw [this]
    unfold isV
    show some (Value.int .i64 (c.toNat : Int)) = some (Value.int .i64 (((P.is_.set n c).getD n 0).toNat : Int))
    rw [getD_set _ _ _ _ (by omega), if_pos rfl]
  · rw [if_neg e]
    by_cases hk : k < P.pages
    · rw [isVs_get P k hk, isVs_get { P with is_ := P.is_.set n c } k hk]
      unfold isV
      show some (Value.int .i64 ((P.is_.getD k 0).toNat : Int)) = some (Value.int .i64 (((P.is_.set n c).getD k 0).toNat : Int))
      rw [getD_set _ _ _ _ (by omega), if_neg (Ne.symm e)]
    · rw [List.getElem?_eq_none (by rw [isVs_length]; omega), List.getElem?_eq_none (by rw [isVs_length]; show P.pages ≤ k; omega)]

def rpCells (r : Nat) (vi vm : Value) (P : Pgr) : Array Value := #[.pointer (some ⟨r, 0, none⟩), .int .i64 (P.frm : Int), vi, .int .i64 (P.root.gen : Int), .int .i64 P.root.page, .int .i64 (P.root.next : Int), vm, .bool P.dead]
/-- a pager of the reference in memory -/
structure RPg (w : World) (B q r : Nat) (vi vm : Value) (P : Pgr) : Prop where
  at_ : w.heap[q]? = some (.cells (rpCells r vi vm P) 164 (0, 0))
  hq : B ≤ q
  is : w.ownsRow B 3 1 vi P.pages (isVs P)
  mt : OwnB w B vm P.root.mt
  len : P.is_.length = 4096
  top : P.pages ≤ 4096
  pos : 1 ≤ P.pages
section
variable {w : World} {B q r : Nat} {vi vm : Value} {P : Pgr}

theorem RPg.cell (h : RPg w B q r vi vm P) (j : Nat) : w.cell? ⟨q, j, none⟩ = (rpCells r vi vm P)[j]? := cell_of_row w q j _ 164 (0, 0) h.at_
theorem RPg.cells (h : RPg w B q r vi vm P) : w.cell? ⟨q, 0, none⟩ = some (.pointer (some ⟨r, 0, none⟩)) ∧ w.cell? ⟨q, 1, none⟩ = some (.int .i64 (P.frm : Int)) ∧ w.cell? ⟨q, 2, none⟩ = some vi ∧ w.cell? ⟨q, 7, none⟩ = some (.bool P.dead) :=
  ⟨h.cell 0, h.cell 1, h.cell 2, h.cell 7⟩
theorem RPg.ne (h : RPg w B q r vi vm P) : vi.ownBlock ≠ some q ∧ vm.ownBlock ≠ some q ∧ ∀ k, vi.ownBlock = some k → vm.ownBlock ≠ some k := by
  refine ⟨fun e => ?_, fun e => ?_, fun k e e2 => ?_⟩
  · obtain ⟨c, hc⟩ := own_type h.is e
    rw [h.at_] at hc
    injection hc with hc
    injection hc with _ h2
    cases h2
  · obtain ⟨c, hc⟩ := own_type h.mt e
    rw [h.at_] at hc
    injection hc with hc
    injection hc with _ h2
    cases h2
  · obtain ⟨c, hc⟩ := own_type h.is e
    obtain ⟨c', hc'⟩ := own_type h.mt e2
    rw [hc] at hc'
    injection hc' with hc'
    injection hc' with _ h2
    cases h2
theorem RPg.mod {F : Nat → Prop} {w' : World} (h : RPg w B q r vi vm P) (hm : Mod F w w') (hF : ∀ k, k = q ∨ vi.ownBlock = some k ∨ vm.ownBlock = some k → ¬ F k) : RPg w' B q r vi vm P :=
  ⟨hm.obj h.at_ (hF q (.inl rfl)), h.hq, owns_mod h.is hm (fun k hk => hF k (.inr (.inl hk))), h.mt.mod hm (fun k hk => hF k (.inr (.inr hk))), h.len, h.top, h.pos⟩
theorem RPg.row (h : RPg w B q r vi vm P) : ∃ g c, vi = .slice (some ⟨g, 0, none⟩) P.pages c ∧ vi.ownBlock = some g ∧ P.pages ≤ c ∧ ∀ n, n < P.pages → w.cell? ⟨g, n, none⟩ = some (isV P n) ∧ w.frozen? ⟨g, n, none⟩ = false := by
  have hp := h.pos
  rcases h.is.2 with ⟨-, e⟩ | ⟨g, cap, cur, rfl, -, hg, hle, -, -, hrow⟩
  · omega
  · refine ⟨g, cap, rfl, rfl, hle, fun n hn => ⟨?_, thaw_of (i := n) hg⟩⟩
    rw [cell_of_row w g n cur 3 (0, 0) hg]
    have h8 := congrArg (fun x => x[n]?) hrow
    simp only [List.getElem?_take, Nat.mul_one, hn, if_true] at h8
    rw [← Array.getElem?_toList, h8]
    exact isVs_get P n hn
theorem RPg.setIs (h : RPg w B q r vi vm P) (g c' : Nat) (hvi : vi = .slice (some ⟨g, 0, none⟩) P.pages c') (n : Nat) (hn : n < P.pages) (c : UInt8) : RPg (w.setCell ⟨g, n, none⟩ (.int .i64 (c.toNat : Int))) B q r vi vm { P with is_ := P.is_.set n c } := by
  have hgb : vi.ownBlock = some g := by rw [hvi]; rfl
  have hm : Mod (fun k => k = g) w (w.setCell ⟨g, n, none⟩ (.int .i64 (c.toNat : Int))) := Mod.setCell _ _ _ rfl
  obtain ⟨n1, n2, n3⟩ := h.ne
  refine ⟨?_, h.hq, ?_, h.mt.mod hm (fun k hk e => n3 k (by rw [e]; exact hgb) hk), by show (P.is_.set n c).length = 4096; rw [List.length_set, h.len], h.top, h.pos⟩
  · exact hm.obj h.at_ (fun e => n1 (by rw [e]; exact hgb))
  · have h1 := h.is
    rw [hvi] at h1 ⊢
    have h2 := (World.ownsRow.stored h1 n (.int .i64 (c.toNat : Int))).1
    rw [isVs_set P h.len h.top n hn c] at h2
    exact h2
theorem RPg.setDead (h : RPg w B q r vi vm P) (b : Bool) : RPg (w.setCell ⟨q, 7, none⟩ (.bool b)) B q r vi vm { P with dead := b } := by
  have hm : Mod (fun k => k = q) w (w.setCell ⟨q, 7, none⟩ (.bool b)) := Mod.setCell _ _ _ rfl
  obtain ⟨n1, n2, n3⟩ := h.ne
  exact ⟨by rw [setCell_block h.at_]; rfl, h.hq, owns_mod h.is hm (fun k hk e => n1 (by rw [← e]; exact hk)), h.mt.mod hm (fun k hk e => n2 (by rw [← e]; exact hk)), h.len, h.top, h.pos⟩
theorem RPg.setRoot (h : RPg w B q r vi vm P) (R : Rt) {v' : Value} (ho : OwnB w B v' R.mt) : RPg ((((w.setCell ⟨q, 3, none⟩ (.int .i64 (R.gen : Int))).setCell ⟨q, 4, none⟩ (.int .i64 R.page)).setCell ⟨q, 5, none⟩ (.int .i64 (R.next : Int))).setCell ⟨q, 6, none⟩ v') B q r vi v' { P with root := R } := by
  have hM : ∀ (w : World) (j : Nat) (x : Value), Mod (fun k => k = q) w (w.setCell ⟨q, j, none⟩ x) := fun w j x => Mod.setCell _ _ _ rfl
  have hm := (((hM w 3 (.int .i64 (R.gen : Int))).trans' (hM _ 4 (.int .i64 R.page))).trans' (hM _ 5 (.int .i64 (R.next : Int)))).trans' (hM _ 6 v')
  obtain ⟨n1, n2, n3⟩ := h.ne
  have hv : v'.ownBlock ≠ some q := fun e => by
    obtain ⟨c, hc⟩ := own_type ho e
    rw [h.at_] at hc
    injection hc with hc
    injection hc with _ h2
    cases h2
  exact ⟨setCell_block (setCell_block (setCell_block (setCell_block h.at_ _) _) _) _, h.hq, owns_mod h.is hm (fun k hk e => n1 (by rw [← e]; exact hk)), ho.mod hm (fun k hk e => hv (by rw [← e]; exact hk)), h.len, h.top, h.pos⟩

set_option maxRecDepth 100000 in
theorem rthere_any (h : RPg w B q r vi vm P) (n : Int) : Calls Try.prog 134 #[.pointer (some ⟨q, 0, none⟩), .int .i64 n] w fun e w' => e = .returned (.bool (P.there n)) ∧ w = w' := by
  obtain ⟨t, ht⟩ : ∃ t, t = P.there n := ⟨_, rfl⟩
  rw [← ht]
  unfold Pgr.there at ht
  have HT := Lib.hid ht
  have c2 := h.cells.2.2.1
  obtain ⟨g, c, e, -, -⟩ := h.row
  rw [e] at c2
  clear ht h e
  go_enter Try.func134, Try.ntmps134
  by_cases h0 : 0 ≤ n
  · by_cases h1 : n < (P.pages : Int)
    · go_wp2
      go_ret
      refine ⟨ret_val ?_, rfl⟩
      show Value.bool _ = Value.bool t
      rw [HT.out]; simp [h0, h1]
    · go_wp2
      go_ret
      refine ⟨ret_val ?_, rfl⟩
      show Value.bool _ = Value.bool t
      rw [HT.out]; simp; omega
  · go_wp2
    go_ret
    refine ⟨ret_val ?_, rfl⟩
    show Value.bool _ = Value.bool t
    rw [HT.out]; simp; omega

theorem freeTo_succ (P : Pgr) (i : Nat) : ((List.range (i + 1)).filter (freeAt P)).length = ((List.range i).filter (freeAt P)).length + (if P.is_.getD i 0 = 0 then 1 else 0) := by
  rw [List.range_succ, List.filter_append, List.length_append]
  congr 1
  by_cases h : P.is_.getD i 0 = 0
  · have : freeAt P i = true := by unfold freeAt; rw [h]; rfl
    rw [if_pos h, List.filter_cons_of_pos this]; rfl
  · have : freeAt P i = false := by unfold freeAt; simpa using h
    rw [if_neg h, List.filter_cons_of_neg (by rw [this]; decide)]; rfl

set_option maxHeartbeats 1000000 in
set_option maxRecDepth 100000 in
theorem rfree_any (h : RPg w B q r vi vm P) : Calls Try.prog 119 #[.pointer (some ⟨q, 0, none⟩)] w fun e w' => e = .returned (.int .i64 (P.empties.length : Int)) ∧ w = w' := by
  have c2 := h.cells.2.2.1
  obtain ⟨g, c, e, -, hle, hcell⟩ := h.row
  rw [e] at c2
  have htop := h.top
  have HCELL := Lib.hid hcell
  have hcle : (P.pages : Int) ≤ (c : Int) := by omega
  clear h e hcell
  go_enter Try.func119, Try.ntmps119
  go_wp2_with fail
  go_loop [3, 4] (fun v3 v4 => ∃ i : Nat, i ≤ P.pages ∧ v4 = .int .i64 (i : Int) ∧ v3 = .int .i64 (((List.range i).filter (freeAt P)).length : Int)) (fun _ v4 => P.pages - (intOf v4).toNat)
  case atStart => exact ⟨0, Nat.zero_le _, rfl, rfl⟩
  case round =>
    obtain ⟨i, hi, rfl, rfl⟩ := hrel
    by_cases hlt : i < P.pages
    · have hlt' : (i : Int) < (P.pages : Int) := by omega
      have hci := (HCELL.out i hlt).1
      have hst := freeTo_succ P i
      have hfl : ((List.range i).filter (freeAt P)).length ≤ i := by
        have := List.length_filter_le (freeAt P) (List.range i)
        rwa [List.length_range] at this
      unfold isV at hci
      generalize ((List.range i).filter (freeAt P)).length = X at *
      generalize P.is_.getD i 0 = b at *
      have HST := Lib.hid hst
      have hw : IntKind.i64.wrap ((X : Int) + 1) = (X : Int) + 1 := IntWalk.i64_in _ (by omega)
      clear hst
      by_cases hb : b = 0
      · subst hb
        go_wp2_with fail
        go_round
        case rel => exact ⟨i + 1, by omega, by go_num, by rw [HST.out]; go_num⟩
        case measure => simp [intOf]; omega
      · have hb0 : ((b.toNat : Int) == 0) = false := by
          rw [beq_eq_false_iff_ne]
          intro e
          exact hb (UInt8.toNat_inj.1 (by show b.toNat = 0; omega))
        have hst2 := HST.out
        rw [if_neg hb] at hst2
        have HST2 := Lib.hid hst2
        clear hst2 hb
        go_wp2_with fail
        go_round
        case rel => exact ⟨i + 1, by omega, by go_num, by rw [HST2.out]; rfl⟩
        case measure => simp [intOf]; omega
    · obtain rfl : i = P.pages := by omega
      go_wp2
      go_ret
      exact ⟨rfl, rfl⟩

def zerosI (n : Nat) : Array Value := (List.replicate n (Value.int .i64 0)).toArray
theorem madeCells_ints (n : Nat) : madeCells (Value.cells (.int .i64 0)) (n * 1) = zerosI n := by
  apply Array.ext_getElem?
  intro i
  unfold madeCells zerosI Value.cells
  by_cases h : i < n <;> simp [h, Nat.mod_one]
theorem infoI : (Try.prog.info? 3).map (fun i => (i.zero, i.size, i.bytes)) = some (some (.int .i64 0), 1, 8) := by kernel_rfl
theorem run_make_ints (w : World) (n : Nat) (hn : n ≤ 281474976710) :
    (Instr.makeSlice 39 (.int .i64 (n : Int)) (.int .i64 (n : Int))).run Try.prog w = .ok (.slice (some ⟨w.heap.size, 0, none⟩) n n) (w.alloc (.cells (zerosI n) 3)) := by
  obtain ⟨i, hi, hz, hs, hb⟩ := info_parts infoI
  have h := run_make (P := Try.prog) w 39 3 i _ Try.underlying39 hi hz .i64 .i64 (n : Int) (n : Int) (by omega) (by omega) (by rw [hb]; omega) (by omega)
  rw [h, hs, Int.toNat_natCast, madeCells_ints]
theorem isVs_zeros (P : Pgr) : isVs { P with is_ := zeros4096 } = List.replicate P.pages (.int .i64 0) := by
  apply List.ext_getElem?
  intro k
  by_cases hk : k < P.pages
  · rw [isVs_get { P with is_ := zeros4096 } k hk, List.getElem?_replicate, if_pos hk]
    unfold isV
    rw [zeros4096_get]; rfl
  · rw [List.getElem?_eq_none (by rw [isVs_length]; show P.pages ≤ k; omega), List.getElem?_eq_none (by simp; omega)]

set_option maxHeartbeats 1000000 in
set_option maxRecDepth 100000 in
theorem rset_any (h : RPg w B q r vi vm P) (hB : B ≤ w.heap.size) (a : Option Addr) (l : List Int) (n cap : Nat) (hn : l.length = n) (hll : l.length ≤ 140737488355328) (hl : IntsAt w a l) (hla : ∀ x, a = some x → l ≠ [] → ¬ x.block = q) (hall : ∀ x ∈ l, 0 ≤ x ∧ x < (P.pages : Int)) :
    Calls Try.prog 136 #[.pointer (some ⟨q, 0, none⟩), .slice a n cap] w fun e w' => e = .returned (.tuple #[]) ∧ (∃ vi', RPg w' B q r vi' vm { P with is_ := setAll l zeros4096 } ∧ ∀ k, vi'.ownBlock = some k → w.heap.size ≤ k) ∧ Mod (fun k => k = q) w w' := by
  subst hn
  have c2 := h.cells.2.2.1
  obtain ⟨g0, c0, e, -, -, -⟩ := h.row
  rw [e] at c2
  clear e
  have htop := h.top
  have hpos := h.pos
  have km := run_make_ints w P.pages (by omega)
  obtain ⟨gi, hgi⟩ : ∃ gi, gi = w.heap.size := ⟨_, rfl⟩
  obtain ⟨W1, hW1⟩ : ∃ W1, W1 = w.setCell ⟨q, 2, none⟩ (.slice (some ⟨gi, 0, none⟩) P.pages P.pages) := ⟨_, rfl⟩
  have hq := h.at_
  have hqw := lt_of_block hq
  have t2 := thaw_of (i := 2) hq
  have m1 : Mod (fun k => k = q) w W1 := by rw [hW1]; exact Mod.setCell _ _ _ rfl
  have z1 : W1.heap.size = gi := by rw [hW1, hgi]; simp
  obtain ⟨W2, hW2⟩ : ∃ W2, W2 = W1.alloc (.cells (zerosI P.pages) 3) := ⟨_, rfl⟩
  have m2 : Mod (fun _ => False) W1 W2 := by rw [hW2]; exact Mod.alloc _ _ _
  have hown : W2.ownsRow B 3 1 (.slice (some ⟨gi, 0, none⟩) P.pages P.pages) P.pages (List.replicate P.pages (.int .i64 0)) := by
    have := World.ownsRow_lit (w := W1) (base := B) (e := 3) (size := 1) (zerosI P.pages) P.pages (by omega) (by unfold maxLen; omega) (by simp [zerosI])
    rw [← hW2, z1] at this
    simpa [zerosI] using this
  have hR2 : RPg W2 B q r (.slice (some ⟨gi, 0, none⟩) P.pages P.pages) vm { P with is_ := zeros4096 } := by
    refine ⟨?_, h.hq, ?_, (h.mt.mod m1 (fun k hk e => h.ne.2.1 (by rw [← e]; exact hk))).mod m2 (fun _ _ => id), zeros4096_length, htop, hpos⟩
    · refine m2.obj ?_ id
      rw [hW1, setCell_block hq]; rfl
    · rw [isVs_zeros]
      exact hown
  have m12 : Mod (fun k => k = q) w W2 := m1.trans m2 (fun _ _ e => e.elim)
  have hl2 := hl.mod m12 hla
  have hli : ∀ x, a = some x → l ≠ [] → ¬ x.block = gi := fun x hx hne => by
    obtain ⟨b', off', e, hc⟩ := hl hne
    rw [e] at hx
    cases hx
    have := World.block_lt_of_cell? _ _ (hc 0 (List.length_pos_iff.2 hne))
    dsimp only at this ⊢
    omega
  have HR2 := Lib.hid hR2
  have HL2 := Lib.hid hl2
  have HLA := Lib.hid hla
  have HLI := Lib.hid hli
  have HALL := Lib.hid hall
  have M12 := Lib.hid m12
  have HW1 := Lib.hid hW1
  have HW2 := Lib.hid hW2
  have HGI := Lib.hid hgi
  clear h hl hla hall m1 m2 hown hR2 m12 hl2 hli hq hW1 hW2 hgi z1
  go_enter Try.func136, Try.ntmps136
  go_upto_region 1 with fail
  rw [← HGI.out, ← HW1.out, ← HW2.out]
  clear km c2 t2
  go_wp2_with fail
  go_loopw [4] (fun v4 wr => ∃ i : Nat, i ≤ l.length ∧ v4 = .int .i64 (i : Int) ∧ RPg wr B q r (.slice (some ⟨gi, 0, none⟩) P.pages P.pages) vm { P with is_ := setAll (l.take i) zeros4096 } ∧ Mod (fun k => k = q) w wr ∧ IntsAt wr a l) (fun v4 _ => l.length - (intOf v4).toNat)
  case atStart => exact ⟨0, Nat.zero_le _, rfl, HR2.out, M12.out, HL2.out⟩
  case round =>
    obtain ⟨i, hi, rfl, hR, hm, hl⟩ := hrel
    by_cases hlt : i < l.length
    · have hlt' : (i : Int) < (l.length : Int) := by omega
      have hne : l ≠ [] := by intro e; rw [e] at hlt; exact absurd hlt (Nat.not_lt_zero _)
      obtain ⟨b, off, rfl, hc⟩ := hl hne
      have hci := hc i hlt
      obtain ⟨x, hx⟩ : ∃ x, x = l[i] := ⟨_, rfl⟩
      rw [← hx] at hci
      obtain ⟨h0, h1⟩ := HALL.out x (hx ▸ List.getElem_mem _)
      obtain ⟨m, rfl⟩ : ∃ m : Nat, x = (m : Int) := ⟨x.toNat, by omega⟩
      have hmp : m < P.pages := by omega
      have mdr : Mod (fun _ => False) wr wr.drew := Mod.drew _ _
      have hRd := hR.mod mdr (fun _ _ => id)
      have q2 := hRd.cells.2.2.1
      have x2 := mdr.cell' hci id
      have hset := hRd.setIs gi P.pages rfl m hmp 1
      have hms : Mod (fun k => k = gi) wr.drew (wr.drew.setCell ⟨gi, m, none⟩ (.int .i64 1)) := Mod.setCell _ _ _ rfl
      have hst : setAll (l.take (i + 1)) zeros4096 = (setAll (l.take i) zeros4096).set m 1 := by
        rw [List.take_succ_eq_append_getElem hlt, setAll_snoc, ← hx]; rfl
      have hl9 := (hl.mod mdr (fun _ _ _ => id)).mod hms HLI.out
      have hm9 : Mod (fun k => k = q) w (wr.drew.setCell ⟨gi, m, none⟩ (.int .i64 1)) := (hm.trans mdr (fun _ _ e => e.elim)).trans hms (fun k hk e => by have := HGI.out; omega)
      have hs9 : RPg (wr.drew.setCell ⟨gi, m, none⟩ (.int .i64 1)) B q r (.slice (some ⟨gi, 0, none⟩) P.pages P.pages) vm { P with is_ := setAll (l.take (i + 1)) zeros4096 } := by rw [hst]; exact hset
      obtain ⟨g', cz, e', -, -, hcells⟩ := hRd.row
      cases e'
      obtain ⟨hcm, hfm⟩ := hcells m hmp
      have HS9 := Lib.hid hs9
      have HM9 := Lib.hid hm9
      have HL9 := Lib.hid hl9
      have hqg : ¬ q = gi := by have := HGI.out; omega
      have hbg : ¬ b = gi := HLI.out _ rfl hne
      have hmi : (0 : Int) ≤ (m : Int) := by omega
      have hmj : (m : Int) < (P.pages : Int) := by omega
      clear hR hm hl hc hne hx hset hms hst hl9 hm9 hs9 hRd hcells hci
      go_upto_region 4 with fail
      refine wp_region_held_drew (S := fun w' => w'.cell? ⟨q, 2, none⟩ = some (.slice (some ⟨gi, 0, none⟩) P.pages P.pages) ∧ w'.cell? ⟨b, off + i, none⟩ = some (.int .i64 (m : Int))) (by kernel_rfl) (⟨q2, x2⟩) (fun hHeld => ?_)
      refine wpAnyH_take (i := 0) (oi := ⟨some 20, .move (.tmp 0), 116, "ref.go:116", #[], none⟩) (v := ?_) rfl (by kernel_rfl) (by kernel_rfl) (by kernel_rfl) (fun _ _ _ h => h) (Or.inl ⟨by rfl, ?_⟩) (by assumption) ?_
      rotate_left
      · (intro w hSw; (try dsimp only at hSw); go_simp; try with_reducible rfl)
      simp only [Act.put, List.setIfInBounds_toArray, List.set_cons_zero, List.set_cons_succ]
      refine wpAnyH_take (i := 1) (oi := ⟨some 21, .nilCheck (.tmp 20), 0, "ref.go:116", #[⟨0, .data⟩], none⟩) (v := ?_) rfl (by kernel_rfl) (by kernel_rfl) (by kernel_rfl) (fun _ _ _ h => h) (Or.inl ⟨by rfl, ?_⟩) (by assumption) ?_
      rotate_left
      · (intro w hSw; (try dsimp only at hSw); go_simp; try with_reducible rfl)
      simp only [Act.put, List.setIfInBounds_toArray, List.set_cons_zero, List.set_cons_succ]
      refine wpAnyH_take (i := 2) (oi := ⟨some 22, .fieldAddr 164 (.tmp 21) 2, 0, "ref.go:116", #[⟨1, .data⟩], none⟩) (v := ?_) rfl (by kernel_rfl) (by kernel_rfl) (by kernel_rfl) (fun _ _ _ h => h) (Or.inl ⟨by rfl, ?_⟩) (by assumption) ?_
      rotate_left
      · (intro w hSw; (try dsimp only at hSw); go_simp; try with_reducible rfl)
      simp only [Act.put, List.setIfInBounds_toArray, List.set_cons_zero, List.set_cons_succ]
      refine wpAnyH_take (i := 3) (oi := ⟨some 23, .load 39 (.tmp 22), 39, "ref.go:116", #[⟨2, .data⟩], none⟩) (v := ?_) rfl (by kernel_rfl) (by kernel_rfl) (by kernel_rfl) (fun _ _ _ h => h) (Or.inl ⟨by rfl, ?_⟩) (by assumption) ?_
      rotate_left
      · (intro w hSw; (try dsimp only at hSw); go_simp; try with_reducible rfl)
      simp only [Act.put, List.setIfInBounds_toArray, List.set_cons_zero, List.set_cons_succ]
      refine wpAnyH_take (i := 4) (oi := ⟨some 24, .move (.tmp 1), 39, "ref.go:116", #[], none⟩) (v := ?_) rfl (by kernel_rfl) (by kernel_rfl) (by kernel_rfl) (fun _ _ _ h => h) (Or.inl ⟨by rfl, ?_⟩) (by assumption) ?_
      rotate_left
      · (intro w hSw; (try dsimp only at hSw); go_simp; try with_reducible rfl)
      simp only [Act.put, List.setIfInBounds_toArray, List.set_cons_zero, List.set_cons_succ]
      refine wpAnyH_take (i := 5) (oi := ⟨some 25, .move (.tmp 4), 3, "ref.go:116", #[], none⟩) (v := ?_) rfl (by kernel_rfl) (by kernel_rfl) (by kernel_rfl) (fun _ _ _ h => h) (Or.inl ⟨by rfl, ?_⟩) (by assumption) ?_
      rotate_left
      · (intro w hSw; (try dsimp only at hSw); go_simp; try with_reducible rfl)
      simp only [Act.put, List.setIfInBounds_toArray, List.set_cons_zero, List.set_cons_succ]
      refine wpAnyH_take (i := 6) (oi := ⟨some 26, .indexAddr 39 (.tmp 24) (.tmp 25), 0, "ref.go:116", #[⟨4, .data⟩, ⟨5, .data⟩], none⟩) (v := ?_) rfl (by kernel_rfl) (by kernel_rfl) (by kernel_rfl) (fun _ _ _ h => h) (Or.inl ⟨by rfl, ?_⟩) (by assumption) ?_
      rotate_left
      · (intro w hSw; (try dsimp only at hSw); go_simp; try with_reducible rfl)
      simp only [Act.put, List.setIfInBounds_toArray, List.set_cons_zero, List.set_cons_succ]
      refine wpAnyH_take (i := 7) (oi := ⟨some 27, .load 3 (.tmp 26), 3, "ref.go:116", #[⟨6, .data⟩], none⟩) (v := ?_) rfl (by kernel_rfl) (by kernel_rfl) (by kernel_rfl) (fun _ _ _ h => h) (Or.inl ⟨by rfl, ?_⟩) (by assumption) ?_
      rotate_left
      · (intro w hSw; (try dsimp only at hSw); go_simp; try with_reducible rfl)
      simp only [Act.put, List.setIfInBounds_toArray, List.set_cons_zero, List.set_cons_succ]
      refine wpAnyH_take (i := 8) (oi := ⟨some 28, .indexAddr 39 (.tmp 23) (.tmp 27), 0, "ref.go:116", #[⟨3, .data⟩, ⟨7, .data⟩, ⟨0, .phase⟩, ⟨1, .phase⟩, ⟨2, .phase⟩, ⟨3, .phase⟩, ⟨4, .phase⟩, ⟨5, .phase⟩, ⟨6, .phase⟩, ⟨7, .phase⟩], none⟩) (v := ?_) rfl (by kernel_rfl) (by kernel_rfl) (by kernel_rfl) (fun _ _ _ h => h) (Or.inl ⟨by rfl, ?_⟩) (by assumption) ?_
      rotate_left
      · (intro w hSw; (try dsimp only at hSw); go_simp; try with_reducible rfl)
      simp only [Act.put, List.setIfInBounds_toArray, List.set_cons_zero, List.set_cons_succ]
      refine wpAnyH_ready (rs := [9]) (by kernel_rfl) (by simp) ?_
      refine AllReadyH.cons (o := ⟨none, .store 3 (.tmp 28) (.const (.int .i64 1)), 0, "ref.go:116", #[⟨8, .data⟩, ⟨0, .phase⟩, ⟨1, .phase⟩, ⟨2, .phase⟩, ⟨3, .phase⟩, ⟨4, .phase⟩, ⟨5, .phase⟩, ⟨6, .phase⟩, ⟨7, .phase⟩], none⟩) rfl (fun K hK => ?_) AllReadyH.nil
      go_simp
      try simp only []
      refine hK.out _ _ (⟨(Mod.setCell (F := fun k => k = gi) _ _ _ rfl).cell' q2 hqg, (Mod.setCell (F := fun k => k = gi) _ _ _ rfl).cell' x2 hbg⟩) (fun _ => ?_)
      clear hK K
      try simp only [Act.put, List.setIfInBounds_toArray, List.set_cons_zero, List.set_cons_succ]
      refine wpAnyH_done (by kernel_rfl) ?_ _
      go_wp2_with fail
      go_roundw
      case rel => exact ⟨i + 1, by omega, by go_num, HS9.out, HM9.out, HL9.out⟩
      case measure => simp [intOf]; omega

    · obtain rfl : i = l.length := by omega
      rw [List.take_length] at hR
      have HR := Lib.hid hR
      have HM := Lib.hid hm
      clear hR hm hl
      go_wp2
      go_end0
      exact ⟨rfl, ⟨_, HR.out, fun k hk => by cases hk; rw [HGI.out]; exact Nat.le_refl _⟩, HM.out⟩

set_option maxHeartbeats 1000000 in
set_option maxRecDepth 100000 in
theorem ruse_any (h : RPg w B q r vi vm P) (hB : B ≤ w.heap.size) (a : Option Addr) (l : List Int) (n cap : Nat) (hn : l.length = n) (hll : l.length ≤ 140737488355328) (hl : IntsAt w a l) (hla : ∀ x, a = some x → l ≠ [] → ¬ x.block = q) :
    Calls Try.prog 118 #[.pointer (some ⟨q, 0, none⟩), .slice a n cap] w fun e w' => e = .returned (.int .i64 (P.whyUse l)) ∧ (∃ vi', RPg w' B q r vi' vm (P.use l) ∧ ∀ k, vi'.ownBlock = some k → vi.ownBlock = some k ∨ w.heap.size ≤ k) ∧ Mod (fun k => k = q) w w' := by
  subst hn
  obtain ⟨o, ho⟩ : ∃ o, o = P.whyUse l := ⟨_, rfl⟩
  obtain ⟨P', hP'⟩ : ∃ P', P' = P.use l := ⟨_, rfl⟩
  rw [← ho, ← hP']
  unfold Pgr.whyUse at ho
  unfold Pgr.use at hP'
  have KT := fun n => rthere_any h n
  have KS : (l.any P.noUse = false) → Calls Try.prog 136 #[.pointer (some ⟨q, 0, none⟩), .slice a l.length cap] w fun e w' => e = .returned (.tuple #[]) ∧ (∃ vi', RPg w' B q r vi' vm { P with is_ := setAll l zeros4096 } ∧ ∀ k, vi'.ownBlock = some k → w.heap.size ≤ k) ∧ Mod (fun k => k = q) w w' := fun hf =>
    rset_any h hB a l l.length cap rfl hll hl hla (fun x hx => by
      have := List.any_eq_false.1 hf x hx
      unfold Pgr.noUse at this
      have h1 : P.there x = true := by simpa using this
      exact of_decide_eq_true h1)
  have HH := Lib.hid h
  have HL := Lib.hid hl
  have HKT := Lib.hid KT
  have HKS := Lib.hid KS
  have HO := Lib.hid ho
  have HP' := Lib.hid hP'
  clear h hl hla KT KS ho hP'
  go_enter Try.func118, Try.ntmps118
  go_wp2_with fail
  go_loop [5] (fun v5 => ∃ i : Nat, i ≤ l.length ∧ v5 = .int .i64 (i : Int) ∧ (l.take i).any P.noUse = false) (fun v5 => l.length - (intOf v5).toNat)
  case atStart => exact ⟨0, Nat.zero_le _, rfl, rfl⟩
  case round =>
    obtain ⟨i, hi, rfl, hany⟩ := hrel
    by_cases hlt : i < l.length
    · have hlt' : (i : Int) < (l.length : Int) := by omega
      have hne : l ≠ [] := by intro e; rw [e] at hlt; exact absurd hlt (Nat.not_lt_zero _)
      obtain ⟨b, off, rfl, hc⟩ := HL.out hne
      have hci := hc i hlt
      have hmem : l[i] ∈ l := List.getElem_mem _
      have hK := HKT.out l[i]
      have hst : (l.take (i + 1)).any P.noUse = !P.there l[i] := by
        rw [List.take_succ_eq_append_getElem hlt, List.any_append, hany]; simp [Pgr.noUse]
      have hgl : P.there l[i] = false → l.any P.noUse = true := fun h => List.any_eq_true.2 ⟨_, hmem, by unfold Pgr.noUse; rw [h]; rfl⟩
      have HST := Lib.hid hst
      have HGL := Lib.hid hgl
      clear hst hgl hany hmem hc hne
      generalize l[i] = x at *
      cases ht : P.there x
      · rw [ht] at hK
        have hyes := HGL.out ht
        have ho := HO.out
        have hP' := HP'.out
        rw [if_pos hyes] at ho hP'
        replace hK := Lib.hid hK
        have HO2 := Lib.hid ho
        have HP2 := Lib.hid hP'
        clear ht hyes ho hP'
        go_wp2_with fail
        refine hK.out.mono ?_
        rintro e wb ⟨rfl, rfl⟩
        go_wp2
        go_ret
        exact ⟨ret_val (by show Value.int .i64 _ = _; rw [HO2.out]), ⟨vi, by rw [HP2.out]; exact HH.out, fun k hk => .inl hk⟩, Mod.refl _ _⟩
      · rw [ht] at hK
        have hst2 := HST.out
        rw [ht] at hst2
        have HST2 := Lib.hid hst2
        replace hK := Lib.hid hK
        clear ht hst2
        go_wp2_with fail
        refine hK.out.mono ?_
        rintro e wb ⟨rfl, rfl⟩
        go_wp2_with fail
        go_round
        case rel => exact ⟨i + 1, by omega, by go_num, HST2.out⟩
        case measure => simp [intOf]; omega
    · obtain rfl : i = l.length := by omega
      rw [List.take_length] at hany
      have ho := HO.out
      have hP' := HP'.out
      rw [hany] at ho hP'
      simp only [Bool.false_eq_true, if_false] at ho hP'
      have HO2 := Lib.hid ho
      have HP2 := Lib.hid hP'
      have hks := Lib.hid (HKS.out hany)
      clear hany ho hP'
      go_wp2_with fail
      refine hks.out.mono ?_
      rintro e wb ⟨rfl, ⟨vi', hR, hv⟩, hm⟩
      have HR := Lib.hid hR
      have HV := Lib.hid hv
      have HM := Lib.hid hm
      clear hR hv hm hks
      go_wp2
      go_ret
      exact ⟨ret_val (by show Value.int .i64 _ = _; rw [HO2.out]), ⟨vi', by rw [HP2.out]; exact HR.out, fun k hk => .inr (HV.out k hk)⟩, HM.out⟩

set_option maxHeartbeats 1000000 in
set_option maxRecDepth 100000 in
theorem rrelease_any (h : RPg w B q r vi vm P) (n : Int) :
    Calls Try.prog 116 #[.pointer (some ⟨q, 0, none⟩), .int .i64 n] w fun e w' => e = .returned (.int .i64 (P.whyRelease n)) ∧ RPg w' B q r vi vm (P.release n) ∧ Mod (fun k => vi.ownBlock = some k) w w' := by
  obtain ⟨o, ho⟩ : ∃ o, o = P.whyRelease n := ⟨_, rfl⟩
  obtain ⟨P', hP'⟩ : ∃ P', P' = P.release n := ⟨_, rfl⟩
  rw [← ho, ← hP']
  unfold Pgr.whyRelease at ho
  unfold Pgr.release at hP'
  have KT := rthere_any h n
  have c2 := h.cells.2.2.1
  obtain ⟨g, c', e, hgb, hle, hrow⟩ := h.row
  by_cases ht : P.there n = true
  · have ht' : 0 ≤ n ∧ n < (P.pages : Int) := of_decide_eq_true ht
    obtain ⟨m, rfl⟩ : ∃ m : Nat, n = (m : Int) := ⟨n.toNat, by omega⟩
    have hm : m < P.pages := by omega
    obtain ⟨hc, hfz⟩ := hrow m hm
    have hset := h.setIs g c' e m hm 0
    rw [e] at c2
    rw [Int.toNat_natCast] at ho hP'
    rw [ht] at KT
    have hms : Mod (fun k => vi.ownBlock = some k) w (w.setCell ⟨g, m, none⟩ (.int .i64 0)) := Mod.setCell _ _ _ hgb
    have HO := Lib.hid ho
    have HP' := Lib.hid hP'
    have HSET := Lib.hid hset
    have HP := Lib.hid h
    have HT := Lib.hid ht
    have HMS := Lib.hid hms
    replace KT := Lib.hid KT
    have hmi : (0 : Int) ≤ (m : Int) := by omega
    have hmj : (m : Int) < (P.pages : Int) := by omega
    unfold isV at hc
    clear ho hP' hset h ht ht' hrow hms e hgb
    generalize P.is_.getD m 0 = x at *
    by_cases hc2 : x = 2
    · subst hc2
      have ho := HO.out
      have hP' := HP'.out
      rw [if_pos ⟨HT.out, rfl⟩] at ho hP'
      have HO2 := Lib.hid ho
      have HP2 := Lib.hid hP'
      clear ho hP'
      go_enter Try.func116, Try.ntmps116
      go_wp2_with fail
      refine KT.out.mono ?_
      rintro e wb ⟨rfl, rfl⟩
      go_wp2
      go_ret
      exact ⟨ret_val (by show Value.int .i64 _ = _; rw [HO2.out]), by rw [HP2.out]; exact HSET.out, HMS.out⟩
    · have ho := HO.out
      have hP' := HP'.out
      rw [if_neg (fun h => hc2 h.2)] at ho hP'
      have hcn : ((x.toNat : Int) != 2) = true := by
        rw [bne_iff_ne]
        intro e
        exact hc2 (UInt8.toNat_inj.1 (by show x.toNat = 2; omega))
      have HO2 := Lib.hid ho
      have HP2 := Lib.hid hP'
      clear ho hP' hc2
      go_enter Try.func116, Try.ntmps116
      go_wp2_with fail
      refine KT.out.mono ?_
      rintro e wb ⟨rfl, rfl⟩
      go_wp2
      go_ret
      exact ⟨ret_val (by show Value.int .i64 _ = _; rw [HO2.out]), by rw [HP2.out]; exact HP.out, Mod.refl _ _⟩
  · have htf : P.there n = false := by simpa using ht
    rw [htf] at KT ho hP'
    rw [if_neg (fun h => by cases h.1)] at ho hP'
    have HO2 := Lib.hid ho
    have HP2 := Lib.hid hP'
    have HP := Lib.hid h
    replace KT := Lib.hid KT
    clear h ht htf ho hP' e c2 hrow
    go_enter Try.func116, Try.ntmps116
    go_wp2_with fail
    refine KT.out.mono ?_
    rintro e wb ⟨rfl, rfl⟩
    go_wp2
    go_ret
    exact ⟨ret_val (by show Value.int .i64 _ = _; rw [HO2.out]), by rw [HP2.out]; exact HP.out, Mod.refl _ _⟩
end
end Go.Proofs.Ytdinnkacilgmmaa
