/- Writes as cells; copying bytes into a row; the walk of Write. -/
import Derived.Test.YtdinnkacilgmmaaDisk1
import Derived.Great.BuildSlice
import Derived.Maps.AppendAt
namespace Go.Proofs.Ytdinnkacilgmmaa
open Go.RowKit

/-- a sector of zeros: a name that the walk leaves standing -/
def zeros256 : List UInt8 := List.replicate 256 0
theorem zeros256_length : zeros256.length = 256 := List.length_replicate
theorem zero132 : Try.zeroCells132 = (chg (0, zeros256)).toArray := by kernel_rfl
theorem zero132_set (n : Nat) : Try.zeroCells132.toList.set 0 (Value.int IntKind.i64 (n : Int)) = chg (n, zeros256) := by
  rw [zero132]; rfl
theorem info132 : (Try.prog.info? 132).map (fun i => (i.zero, i.size, i.bytes)) = some (some (.agg (chg (0, zeros256)).toArray), chgSize, 264) := by kernel_rfl
theorem info132_size : (Try.prog.info? 132).map (·.size) = some chgSize := by kernel_rfl

theorem setRow_alloc (w : World) (C C' : Array Value) (t : TypeId) (fz : Nat × Nat) : (w.alloc (.cells C t fz)).setRow w.heap.size C' = w.alloc (.cells C' t fz) := by
  unfold World.setRow World.alloc
  congr 1
  apply Array.ext
  · simp
  · intro i h1 h2
    simp only [Array.getElem_modify]
    split
    · rename_i h; subst h; simp
    · rename_i h; simp at h2; rw [Array.getElem_push_lt (by omega), Array.getElem_push_lt (by omega)]
theorem run_store132 (w : World) (n : Nat) : (storeCells ⟨w.heap.size, 0, none⟩ (Try.zeroCells132.toList.set 0 (Value.int IntKind.i64 (n : Int)))).run Try.prog (w.alloc (.cells Try.zeroCells132 132)) =
    .ok () (w.alloc (.cells (chg (n, zeros256)).toArray 132)) := by
  rw [zero132_set, zero132]
  have h := run_storeCells_from (P := Try.prog) w.heap.size 132 (chg (n, zeros256)) 0 (chg (0, zeros256)).toArray (w.alloc (.cells (chg (0, zeros256)).toArray 132)) (heap_alloc_new w _) (by rw [Nat.zero_add, List.size_toArray, chg_length (n, zeros256) (zeros256_length), chg_length (0, zeros256) (zeros256_length)]) (by
    intro v hv
    rcases List.mem_cons.1 hv with rfl | hv
    · rfl
    · obtain ⟨c, -, rfl⟩ := List.mem_map.1 hv; rfl)
  rw [h]
  simp only [List.take_zero, List.nil_append]
  rw [setRow_alloc]

theorem splice_map (s : List UInt8) (off : Nat) (b : List UInt8) : splice (s.map byteV) off (b.map byteV) = (splice s off b).map byteV := by
  simp [splice, List.map_take, List.map_drop]

section
variable {w : World} {ops : Array Oper} {rest : List Oper} {o : Oper} {a : Act} {Q : Exit → Act → World → Prop}

/-- copy(dst, src) on bytes: a row of cells is written over by all of the source -/
theorem copy_run (ty : TypeId) (g off dl dc : Nat) (sp : Option Addr) (sl sc : Nat) (r : List UInt8) (hr : r.length = sl) (hle : sl ≤ dl) (hb : BytesAt w sp r)
    (cur : Array Value) (t : TypeId) (hg : w.heap[g]? = some (.cells cur t (0, 0))) (hfit : off + r.length ≤ cur.size) :
    ∃ w', (Builtin.copy_ #[22, 22] ty #[.slice (some ⟨g, off, none⟩) dl dc, .slice sp sl sc]).run Try.prog w = .ok (goInt r.length) w' ∧
      w'.heap[g]? = some (.cells (splice cur.toList off (r.map byteV)).toArray t (0, 0)) ∧ Mod (fun k => k = g) w w' := by
  obtain ⟨i, hi, hz, hs, hbt⟩ := info_parts info5
  have hsz : (Try.prog.info? 5).map (·.size) = some 1 := by rw [hi]; simp [hs]
  by_cases h0 : r = []
  · subst h0
    have hrun := run_copy_none (P := Try.prog) w 22 22 ty 5 (some ⟨g, off, none⟩) sp dl dc sl sc Try.underlying22 hsz (by simp at hr; subst hr; simp)
    exact ⟨w, hrun, by simpa [splice] using hg, Mod.refl _ _⟩
  · obtain ⟨ad, rfl, hc⟩ := bytesAt_cells hb h0
    have hrun := run_copy_row (P := Try.prog) w 22 22 ty 5 g off dl dc ad sl sc cur t (r.map byteV) Try.underlying22 hsz hg (by rw [List.length_map, hr]; exact (Nat.min_eq_left hle).symm) hc (by simpa using hfit) (bytes_oneCell r)
    refine ⟨_, by rw [hrun]; simp [splice], setRow_heap w g _ _ t _ hg, Mod.setRow w g _ rfl⟩

theorem copyB (hgd : o.guard = none) (d s : Operand) (ho : o.op = .call { callee := .builtin .copy, args := #[d, s], argTypes := #[22, 22] })
    (g off dl dc : Nat) (hd : a.eval d = .slice (some ⟨g, off, none⟩) dl dc) (sp : Option Addr) (sl sc : Nat) (hs : a.eval s = .slice sp sl sc) (r : List UInt8) (hr : r.length = sl) (hle : sl ≤ dl) (hb : BytesAt w sp r)
    (cur : Array Value) (t : TypeId) (hg : w.heap[g]? = some (.cells cur t (0, 0))) (hfit : off + r.length ≤ cur.size)
    (h : ∀ w', w'.heap[g]? = some (.cells (splice cur.toList off (r.map byteV)).toArray t (0, 0)) → Mod (fun k => k = g) w w' → wpList Try.prog ops Q rest (a.put o.dst (goInt r.length)) w') :
    wpList Try.prog ops Q (o :: rest) a w := by
  refine wpList_plain hgd fun K hK => ?_
  obtain ⟨w', hrun, h1, h2⟩ := copy_run (w := w) o.type g off dl dc sp sl sc r hr hle hb cur t hg hfit
  unfold Oper.wp
  simp [execOp, ho, resolve, invoke, builtin, hd, hs, hrun, Result.andThen]
  exact hK _ _ (h w' h1 h2)

theorem copyB_step {E : Prop} {K : Act → World → Prop} (hgd : o.guard = none) (d s : Operand) (ho : o.op = .call { callee := .builtin .copy, args := #[d, s], argTypes := #[22, 22] })
    (g off dl dc : Nat) (hd : a.eval d = .slice (some ⟨g, off, none⟩) dl dc) (sp : Option Addr) (sl sc : Nat) (hs : a.eval s = .slice sp sl sc) (r : List UInt8) (hr : r.length = sl) (hle : sl ≤ dl) (hb : BytesAt w sp r)
    (cur : Array Value) (t : TypeId) (hg : w.heap[g]? = some (.cells cur t (0, 0))) (hfit : off + r.length ≤ cur.size)
    (h : ∀ w', w'.heap[g]? = some (.cells (splice cur.toList off (r.map byteV)).toArray t (0, 0)) → Mod (fun k => k = g) w w' → K (a.put o.dst (goInt r.length)) w') :
    if Region.wanted o (yielded ops a.tmps) = true then Oper.wp Try.prog o a w K Q else E := by
  rw [if_pos (by simp [Region.wanted, hgd])]
  obtain ⟨w', hrun, h1, h2⟩ := copy_run (w := w) o.type g off dl dc sp sl sc r hr hle hb cur t hg hfit
  unfold Oper.wp
  simp [execOp, ho, resolve, invoke, builtin, hd, hs, hrun, Result.andThen]
  exact h w' h1 h2
end

/-- an owned row, some of it written over -/
theorem OwnB.laid {w w' : World} {B g n cap off : Nat} {l b : List UInt8} {cur : Array Value} {t : TypeId} (h : OwnB w B (.slice (some ⟨g, 0, none⟩) n cap) l) (hg : w.heap[g]? = some (.cells cur t (0, 0)))
    (hg' : w'.heap[g]? = some (.cells (splice cur.toList off (b.map byteV)).toArray t (0, 0))) (hf : off + b.length ≤ l.length) : OwnB w' B (.slice (some ⟨g, 0, none⟩) n cap) (splice l off b) := by
  rcases h.2 with ⟨e, _⟩ | ⟨g', cap', cur', e, h2, h3, h4, h5, h6, h7⟩
  · cases e
  · cases e
    rw [hg] at h3
    cases h3
    have hl := length_splice l off b hf
    have hlc : off + (b.map byteV).length ≤ cur.toList.length := by simp at h6 ⊢; omega
    have hl2 := length_splice cur.toList off (b.map byteV) hlc
    refine ⟨by simp, .inr ⟨g, cap, _, by rw [hl], h2, hg', by rw [hl]; exact h4, h5, ?_, ?_⟩⟩
    · rw [List.size_toArray, hl2]; simpa using h6
    · rw [hl, ← splice_map, ← h7]
      simp only [splice, List.length_map, Nat.mul_one]
      apply List.ext_getElem?
      intro j
      simp only [List.getElem?_take, List.getElem?_append, List.length_take, Array.length_toList, List.getElem?_drop, List.length_map]
      simp only [Array.length_toList, List.length_map] at hlc
      have h8 : l.length ≤ cur.size := by rw [h6]; omega
      simp only [Nat.min_eq_left (show off ≤ cur.size by omega), Nat.min_eq_left (show off ≤ min l.length cur.size by omega)]
      by_cases hj : j < l.length
      · by_cases h9 : j < off
        · simp [hj, h9]
        · by_cases h10 : j - off < b.length
          · simp [hj, h9, h10]
          · simp [hj, h9, h10]
            intro h11; omega
      · simp [hj]
        have : ¬ j < off := by omega
        have : ¬ j - off < b.length := by omega
        simp [*]
        intros
        omega


theorem chg_oneCell (x : Nat × List UInt8) : ∀ u ∈ chg x, u.oneCell' = true := by
  intro u hu
  rcases List.mem_cons.1 hu with rfl | hu
  · rfl
  · exact bytes_oneCell x.2 u hu
theorem chgs_oneCell (l : List (Nat × List UInt8)) : ∀ u ∈ chgs l, u.oneCell' = true := by
  intro u hu
  obtain ⟨x, -, hx⟩ := List.mem_flatMap.1 hu
  exact chg_oneCell x u hx

/-- a slice literal of one write -/
theorem run_one132 (w : World) (C : Array Value) (hC : C.size = chgSize) : (Instr.buildSlice 127 1 #[(0, .agg C)]).run Try.prog w = .ok (.slice (some ⟨w.heap.size, 0, none⟩) 1 1) (w.alloc (.cells C 132)) := by
  obtain ⟨i, hi, hz, hs, hb⟩ := info_parts info132
  refine run_buildSlice w 127 132 1 _ C i _ Try.underlying127 hi hz ?_ ?_ ?_
  · rw [hs]; decide
  · rw [hs]; decide
  · rw [hs]
    have h := Great.fill_whole (s := chgSize) (by decide) [Value.agg C] ((Array.range (1 * chgSize)).map ((Value.agg (chg (0, zeros256)).toArray).cells[· % (Value.agg (chg (0, zeros256)).toArray).cells.size]!))
      (by intro v hv; rw [List.mem_singleton.1 hv]; exact hC) (by simp)
    simpa [Value.cells] using h

theorem one132_step {ops : Array Oper} {o : Oper} {a : Act} {w : World} {K : Act → World → Prop} {Q : Exit → Act → World → Prop} {E : Prop} (hgd : o.guard = none) (x : Operand) (ho : o.op = .buildSlice 127 1 #[(0, x)]) (C : Array Value) (hx : a.eval x = .agg C) (hC : C.size = chgSize)
    (h : K (a.put o.dst (.slice (some ⟨w.heap.size, 0, none⟩) 1 1)) (w.alloc (.cells C 132))) : if Region.wanted o (yielded ops a.tmps) = true then Oper.wp Try.prog o a w K Q else E := by
  rw [if_pos (by simp [Region.wanted, hgd])]
  have hm : (#[(0, x)].map fun (i, x) => (i, a.eval x)) = #[(0, .agg C)] := by simp [hx]
  unfold Oper.wp execOp
  simp only [ho, hm, Sem.run_bind, run_one132 w C hC, Result.andThen_ok]
  exact h

section
variable {w : World} {ops : Array Oper} {rest : List Oper} {o : Oper} {a : Act} {Q : Exit → Act → World → Prop}

/-- append(v, r...) on writes that are owned -/
theorem appC_step {E : Prop} {K : Act → World → Prop} (hgd : o.guard = none) (s x : Operand) (ho : o.op = .call { callee := .builtin .append, args := #[s, x], argTypes := #[127, 127] })
    (B : Nat) (v : Value) (l : List (Nat × List UInt8)) (hs : a.eval s = v) (hown : OwnC w B v l)
    (ad : Addr) (m c : Nat) (r : List (Nat × List UInt8)) (hx : a.eval x = .slice (some ad) m c) (hm : r.length = m) (hr : ∀ y ∈ r, y.2.length = 256)
    (hc : ∀ (j : Nat) u, (chgs r)[j]? = some u → w.cell? (ad.add j) = some u)
    (h47 : l.length + r.length ≤ 1048576) (hB : B ≤ w.heap.size)
    (h : ∀ v' w', OwnC w' B v' (l ++ r) → Mod (fun k => some k = v.ownBlock) w w' → (v'.ownBlock = v.ownBlock ∨ v'.ownBlock = some w.heap.size) → K (a.put o.dst v') w') :
    if Region.wanted o (yielded ops a.tmps) = true then Oper.wp Try.prog o a w K Q else E := by
  rw [if_pos (by simp [Region.wanted, hgd])]
  subst hm
  obtain ⟨i, hi, hz, hs1, hb1⟩ := info_parts info132
  have hz' : (Value.agg (chg (0, zeros256)).toArray).cells.size = chgSize := by
    show (chg (0, zeros256)).toArray.size = chgSize
    rw [List.size_toArray, chg_length (0, zeros256) zeros256_length]
  obtain ⟨v', w', hrun, h1, h2, -, h4⟩ := run_append_own_at (P := Try.prog) w B 127 o.type 132 i _ chgSize 264 Try.underlying127 hi hz hs1 hb1 hz' (by decide) v l.length (chgs l) hown ad r.length c (chgs r) (chgs_length r hr) hc (chgs_oneCell r) (by unfold maxLen; omega) (by omega) hB
  unfold Oper.wp execOp
  simp only [ho, resolve, invoke, builtin, Sem.run_bind, Sem.run_pure, Result.andThen_ok, List.map_toArray, List.map_cons, List.map_nil, hs, hx, hrun]
  refine h v' w' ?_ (Mod.grown h2) h4
  unfold OwnC
  rw [List.length_append, show chgs (l ++ r) = chgs l ++ chgs r by simp [chgs]]
  exact h1

theorem appC (hgd : o.guard = none) (s x : Operand) (ho : o.op = .call { callee := .builtin .append, args := #[s, x], argTypes := #[127, 127] })
    (B : Nat) (v : Value) (l : List (Nat × List UInt8)) (hs : a.eval s = v) (hown : OwnC w B v l)
    (ad : Addr) (m c : Nat) (r : List (Nat × List UInt8)) (hx : a.eval x = .slice (some ad) m c) (hm : r.length = m) (hr : ∀ y ∈ r, y.2.length = 256)
    (hc : ∀ (j : Nat) u, (chgs r)[j]? = some u → w.cell? (ad.add j) = some u)
    (h47 : l.length + r.length ≤ 1048576) (hB : B ≤ w.heap.size)
    (h : ∀ v' w', OwnC w' B v' (l ++ r) → Mod (fun k => some k = v.ownBlock) w w' → (v'.ownBlock = v.ownBlock ∨ v'.ownBlock = some w.heap.size) → wpList Try.prog ops Q rest (a.put o.dst v') w') :
    wpList Try.prog ops Q (o :: rest) a w := by
  refine wpList_plain hgd fun K hK => ?_
  have := appC_step (ops := ops) (E := True) (K := K) (Q := Q) hgd s x ho B v l hs hown ad m c r hx hm hr hc h47 hB (fun v' w' h1 h2 h3 => hK _ _ (h v' w' h1 h2 h3))
  rwa [if_pos (by simp [Region.wanted, hgd])] at this
end

/-- the cells of one write, in a block of its own -/
theorem chg_cells {w : World} {q : Nat} {x : Nat × List UInt8} {t : TypeId} {fz : Nat × Nat} (hq : w.heap[q]? = some (.cells (chg x).toArray t fz)) :
    (∀ (j : Nat) u, (chgs [x])[j]? = some u → w.cell? ((⟨q, 0, none⟩ : Addr).add j) = some u) ∧ BytesAt w (some ⟨q, 1, none⟩) x.2 := by
  constructor
  · intro j u hu
    have hadd : (⟨q, 0, none⟩ : Addr).add j = ⟨q, j, none⟩ := by unfold Addr.add; split <;> simp_all
    rw [hadd, cell_of_row w q j _ t fz hq]
    simpa [chgs] using hu
  · refine bytesAt_of_block hq x.2 (fun j hj => ?_)
    simp [chg, hj, Nat.add_comm 1 j]

theorem splice_chg (n : Nat) (b : List UInt8) (_h : b.length ≤ 256) : splice (chg (n, zeros256)).toArray.toList 1 (b.map byteV) = chg (n, sect b) := by
  simp only [splice, chg, sect, List.take_succ_cons, List.take_zero, List.length_map, List.map_append, List.cons_append, List.nil_append]
  congr 2
  rw [Nat.add_comm 1, List.drop_succ_cons, zeros256, List.map_replicate, List.drop_replicate, List.map_replicate]


theorem own_type {w : World} {B e size n : Nat} {v : Value} {xs : List Value} {g : Nat} (ho : w.ownsRow B e size v n xs) (hg : v.ownBlock = some g) : ∃ cur, w.heap[g]? = some (.cells cur e (0, 0)) := by
  rcases ho.2 with ⟨rfl, _⟩ | ⟨g', cap, cur, rfl, _, hgg, _⟩
  · simp [Value.ownBlock] at hg
  · simp [Value.ownBlock] at hg
    subst hg
    exact ⟨cur, hgg⟩
theorem own_ne {w : World} {B e size n : Nat} {v : Value} {xs : List Value} {g : Nat} {C : Array Value} {t : TypeId} {fz : Nat × Nat} (ho : w.ownsRow B e size v n xs) (hg : w.heap[g]? = some (.cells C t fz)) (hne : t ≠ e) : v.ownBlock ≠ some g := by
  intro h
  obtain ⟨cur, hc⟩ := own_type ho h
  rw [hg] at hc
  injection hc with hc
  injection hc with _ h2
  exact hne h2

/-- memory behind the append of Write -/
theorem write_mem {w w1 w3 : World} {B p q : Nat} {vs vn vl v3 : Value} {D : Dsk} (h : DiskV w B p vs vn vl D) (x : Nat × List UInt8) (C X : Array Value) (hq : w.heap.size = q)
    (m1 : Mod (fun k => k = q) w w1) (hw1 : w1.heap[q]? = some (.cells X 132 (0, 0))) (hown3 : OwnC w3 B v3 (D.l ++ [x])) (m3 : Mod (fun k => some k = vl.ownBlock) (w1.drew.alloc (.cells C 132)) w3)
    (hpl : v3.ownBlock = vl.ownBlock ∨ v3.ownBlock = some (w1.drew.alloc (.cells C 132)).heap.size) :
    Mod (fun k => k = q ∨ some k = vl.ownBlock ∨ k = p) w (w3.setCell ⟨p, 2, none⟩ v3) ∧ (w3.setCell ⟨p, 2, none⟩ v3).heap[q]? = some (.cells X 132 (0, 0)) ∧
    (w3.setCell ⟨p, 2, none⟩ v3).heap[p]? = some (.cells #[vs, vn, v3, .bool D.bad, .bool D.full, .bool D.gone] 129 (0, 0)) ∧ OwnC (w3.setCell ⟨p, 2, none⟩ v3) B v3 (D.l ++ [x]) ∧ (∀ k, v3.ownBlock = some k → vl.ownBlock = some k ∨ w.heap.size ≤ k) := by
  have hp := (h.lt p foot_p).2
  have hvl : ∀ k, vl.ownBlock = some k → k < w.heap.size := fun k hk => (h.lt k (.inr (.inr (.inr hk.symm)))).2
  have pv := h.ne_sl.2.2.1
  have m2 : Mod (fun k => k = q ∨ some k = vl.ownBlock) w (w1.drew.alloc (.cells C 132)) := (m1.mono (fun _ _ e => .inl e)).trans ((Mod.drew (fun _ => False) w1).trans' (Mod.alloc _ _ _)) (fun _ _ e => e.elim)
  have m23 : Mod (fun k => k = q ∨ some k = vl.ownBlock) w w3 := m2.trans m3 (fun _ _ e => .inr e)
  have m4 : Mod (fun k => k = p) w3 (w3.setCell ⟨p, 2, none⟩ v3) := Mod.setCell _ _ _ rfl
  have m24 : Mod (fun k => k = q ∨ some k = vl.ownBlock ∨ k = p) w (w3.setCell ⟨p, 2, none⟩ v3) :=
    (m23.mono (fun _ _ e => by rcases e with e | e; exact .inl e; exact .inr (.inl e))).trans m4 (fun _ _ e => .inr (.inr e))
  have hp3 : w3.heap[p]? = _ := m23.obj h.at_ (by rintro (e | e); omega; exact pv e.symm)
  refine ⟨m24, ?_, ?_, ?_, ?_⟩
  · have a1 := ((Mod.drew (fun _ => False) w1).trans' (Mod.alloc _ _ (.cells C 132))).obj hw1 id
    have a2 := m3.obj a1 (fun e => by have := hvl q e.symm; omega)
    exact m4.obj a2 (by omega)
  · rw [setCell_block hp3]; rfl
  · exact hown3.mod m4 (fun k hk e => own_ne hown3 hp3 (by decide) (by rw [hk, e]))
  · intro k hk
    rcases hpl with e | e
    · exact .inl (by rw [← e, hk])
    · rw [e] at hk
      cases hk
      exact .inr m2.size

/-- memory behind all of Write -/
theorem write_end {w w4 w5 : World} {B p q g : Nat} {vs vn vl v3 : Value} {D : Dsk} (h : DiskV w B p vs vn vl D) (n : Nat) (b : List UInt8) (hw : D.why n b = 0) (hq : w.heap.size = q)
    (m4 : Mod (fun k => k = q ∨ some k = vl.ownBlock ∨ k = p) w w4) (hp4 : w4.heap[p]? = some (.cells #[vs, vn, v3, .bool D.bad, .bool D.full, .bool D.gone] 129 (0, 0)))
    (hl4 : OwnC w4 B v3 (D.l ++ [(n, sect b)])) (hpl : ∀ k, v3.ownBlock = some k → vl.ownBlock = some k ∨ w.heap.size ≤ k)
    (hg : vn.ownBlock = some g) (m5 : Mod (fun k => k = g) w4 w5) (hn5 : OwnB w5 B vn (lay D.now n (sect b))) :
    Turned w B p (foot p vs vn vl) (D.write n b) w5 := by
  obtain ⟨k1, k2, k3, k4⟩ := h.ne_sl
  have hvl : ∀ k, foot p vs vn vl k → k < w.heap.size := fun k hk => (h.lt k hk).2
  have e : D.write n b = { D with l := D.l ++ [(n, sect b)] } := by unfold Dsk.write; rw [if_pos hw, Int.toNat_natCast]
  have hwf := h.wf.write n b
  rw [e] at hwf ⊢
  have m45 : Mod (foot p vs vn vl) w w5 := (m4.mono (fun k hk e => by
    rcases e with e | e | e
    · omega
    · exact .inr (.inr (.inr e))
    · exact .inl e)).trans m5 (fun k _ e => .inr (.inr (.inl (by rw [hg, e]))))
  refine ⟨m45, _, ⟨vs, vn, v3, ⟨hwf, ?_, h.hp, ?_, ?_, ?_, h.apart⟩, rfl⟩, ?_⟩
  · exact m5.obj hp4 (fun e => k2 (by rw [hg, e]))
  · refine (h.safe.mod m4 ?_).mod m5 ?_
    · rintro k hk (e | e | e)
      · have := hvl k (.inr (.inl hk.symm)); omega
      · exact (k4 k e.symm).1 hk
      · exact k1 (by rw [hk, e])
    · rintro k hk rfl
      exact h.apart (by rw [hk, hg])
  · show OwnB w5 B vn (layAll D.safe (D.l ++ [(n, sect b)]))
    rw [layAll_snoc]
    exact hn5
  · refine OwnC.mod hl4 m5 ?_
    rintro k hk rfl
    have ho : OwnB w4 B vn D.now := h.now.mod m4 (by
      rintro k hk2 (e | e | e)
      · have := hvl k (.inr (.inr (.inl hk2.symm))); omega
      · exact (k4 k e.symm).2 hk2
      · exact k2 (by rw [hk2, e]))
    obtain ⟨cur, hc⟩ := own_type ho hg
    exact own_ne hl4 hc (by decide) hk
  · rintro k (e | e | e | e)
    · exact .inl (.inl e)
    · exact .inl (.inr (.inl e))
    · exact .inl (.inr (.inr (.inl e)))
    · rcases hpl k e.symm with e2 | e2
      · exact .inl (.inr (.inr (.inr e2.symm)))
      · exact .inr e2
end Go.Proofs.Ytdinnkacilgmmaa
