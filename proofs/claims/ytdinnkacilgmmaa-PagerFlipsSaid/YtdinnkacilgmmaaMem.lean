/- Memory: which blocks a step may turn; rows of bytes that are read, and rows that the call owns; laws for append, make and copy on bytes, each leaving a world that is a variable. -/
import Derived.Test.YtdinnkacilgmmaaRows
import Derived.WalkKit
import Derived.Lib.Hide
import Derived.Laws.AppendOwnNone
import Derived.Laws.CopyOwn
namespace Go.Proofs.Ytdinnkacilgmmaa
open Go.RowKit

theorem ret_val {a b : Value} (h : a = b) : Ending.returned a = .returned b := by rw [h]

/-! ### what may have turned -/

/-- w' is w, but for blocks of F and new ones -/
structure Mod (F : Nat → Prop) (w w' : World) : Prop where
  os : w'.os = w.os
  tape : w'.tape = w.tape
  output : w'.output = w.output
  size : w.heap.size ≤ w'.heap.size
  block : ∀ k, k < w.heap.size → ¬ F k → w'.heap[k]? = w.heap[k]?

theorem Mod.refl (F : Nat → Prop) (w : World) : Mod F w w := ⟨rfl, rfl, rfl, Nat.le_refl _, fun _ _ _ => rfl⟩

theorem Mod.trans {F G : Nat → Prop} {w w1 w2 : World} (h : Mod F w w1) (k : Mod G w1 w2) (hFG : ∀ i, i < w.heap.size → G i → F i) : Mod F w w2 :=
  ⟨k.os.trans h.os, k.tape.trans h.tape, k.output.trans h.output, Nat.le_trans h.size k.size,
    fun i hi hF => (k.block i (Nat.lt_of_lt_of_le hi h.size) (fun hG => hF (hFG i hi hG))).trans (h.block i hi hF)⟩

theorem Mod.trans' {F : Nat → Prop} {w w1 w2 : World} (h : Mod F w w1) (k : Mod F w1 w2) : Mod F w w2 := h.trans k (fun _ _ h => h)

theorem Mod.mono {F G : Nat → Prop} {w w' : World} (h : Mod F w w') (hFG : ∀ i, i < w.heap.size → F i → G i) : Mod G w w' :=
  ⟨h.os, h.tape, h.output, h.size, fun i hi hG => h.block i hi (fun hF => hG (hFG i hi hF))⟩

theorem Mod.grown {w w' : World} {row : Option Nat} (h : w.grownBy w' row) : Mod (fun k => some k = row) w w' :=
  ⟨h.os, h.tape, h.output, h.size, fun k hk hF => h.block k hk hF⟩

theorem Mod.alloc (F : Nat → Prop) (w : World) (o : Obj) : Mod F w (w.alloc o) :=
  ⟨rfl, rfl, rfl, by simp, fun k hk _ => Below.heap_alloc w o k hk⟩

theorem Mod.drew (F : Nat → Prop) (w : World) : Mod F w w.drew := ⟨rfl, rfl, rfl, Nat.le_refl _, fun _ _ _ => rfl⟩

theorem Mod.setCell {F : Nat → Prop} (w : World) (a : Addr) (v : Value) (h : F a.block) : Mod F w (w.setCell a v) :=
  ⟨rfl, rfl, rfl, by simp [World.setCell], fun k _ hF => Below.heap_setCell w a v k (fun e => hF (e ▸ h))⟩

theorem Mod.setRow {F : Nat → Prop} (w : World) (g : Nat) (cs : Array Value) (h : F g) : Mod F w (w.setRow g cs) :=
  ⟨rfl, rfl, rfl, by simp, fun k _ hF => setRow_other w g k cs (fun e => hF (e ▸ h))⟩

theorem Mod.below {F : Nat → Prop} {B : Nat} {w w' : World} (h : Mod F w w') (hF : ∀ k, F k → B ≤ k) (hB : B ≤ w.heap.size) : Below B w w' :=
  ⟨h.os, h.tape, h.output, h.size, fun k hk => h.block k (by omega) (fun hf => by have := hF k hf; omega)⟩

theorem Mod.of_below {B : Nat} {w w' : World} (h : Below B w w') : Mod (fun k => B ≤ k) w w' :=
  ⟨h.os, h.tape, h.output, h.size, fun k _ hk => h.block k (by omega)⟩

/-- nothing that was there has turned -/
theorem Mod.fresh {w w' : World} (h : Below w.heap.size w w') (F : Nat → Prop) : Mod F w w' :=
  ⟨h.os, h.tape, h.output, h.size, fun k hk _ => h.block k hk⟩

theorem Mod.cell {F : Nat → Prop} {w w' : World} (h : Mod F w w') {p : Addr} (hk : p.block < w.heap.size) (hF : ¬ F p.block) : w'.cell? p = w.cell? p :=
  World.cell?_of_block (w := w) (h.block p.block hk hF)

theorem Mod.cell' {F : Nat → Prop} {w w' : World} (h : Mod F w w') {p : Addr} {v : Value} (hv : w.cell? p = some v) (hF : ¬ F p.block) : w'.cell? p = some v :=
  (h.cell (World.block_lt_of_cell? w p hv) hF).trans hv

theorem lt_of_block {w : World} {k : Nat} {o : Obj} (h : w.heap[k]? = some o) : k < w.heap.size := (Array.getElem?_eq_some_iff.1 h).1

theorem Mod.obj {F : Nat → Prop} {w w' : World} (h : Mod F w w') {k : Nat} {o : Obj} (hk : w.heap[k]? = some o) (hF : ¬ F k) : w'.heap[k]? = some o :=
  (h.block k (lt_of_block hk) hF).trans hk

/-! ### bytes -/

/-- a byte as a value -/
abbrev byteV (c : UInt8) : Value := .int .u8 (c.toNat : Int)

/-- what a slice of bytes reads as: where there is a byte, there is a row that holds them -/
def BytesAt (w : World) (a : Option Addr) (l : List UInt8) : Prop :=
  l ≠ [] → ∃ b off, a = some ⟨b, off, none⟩ ∧ ∀ j (h : j < l.length), w.cell? ⟨b, off + j, none⟩ = some (byteV l[j])

theorem BytesAt.nil (w : World) (a : Option Addr) : BytesAt w a [] := fun h => absurd rfl h

theorem bytesAt_of_block {w : World} {b off : Nat} {C : Array Value} {t : TypeId} {fz : Nat × Nat} (h : w.heap[b]? = some (.cells C t fz)) (l : List UInt8)
    (hc : ∀ j (hj : j < l.length), C[off + j]? = some (byteV l[j])) : BytesAt w (some ⟨b, off, none⟩) l := by
  intro _
  refine ⟨b, off, rfl, fun j hj => ?_⟩
  rw [cell_of_row w b (off + j) C t fz h]
  exact hc j hj

theorem bytesAt_new (w : World) (l : List UInt8) (t : TypeId) (fz : Nat × Nat) : BytesAt (w.alloc (.cells (l.map byteV).toArray t fz)) (some ⟨w.heap.size, 0, none⟩) l :=
  bytesAt_of_block (heap_alloc_new w _) l (fun j hj => by simp [hj])

theorem bytesAt_new' {w : World} {l : List UInt8} {C : Array Value} {t : TypeId} {fz : Nat × Nat} {k : Nat} (hk : k = w.heap.size) (hC : C = (l.map byteV).toArray) : BytesAt (w.alloc (.cells C t fz)) (some ⟨k, 0, none⟩) l := by
  subst hk; subst hC; exact bytesAt_new w l t fz

theorem BytesAt.mod {F : Nat → Prop} {w w' : World} {a : Option Addr} {l : List UInt8} (h : BytesAt w a l) (hm : Mod F w w') (hF : ∀ x, a = some x → l ≠ [] → ¬ F x.block) : BytesAt w' a l := by
  intro hl
  obtain ⟨b, off, rfl, hc⟩ := h hl
  exact ⟨b, off, rfl, fun j hj => hm.cell' (hc j hj) (show ¬ F b from hF ⟨b, off, none⟩ rfl hl)⟩

theorem BytesAt.fresh {w w' : World} {a : Option Addr} {l : List UInt8} (h : BytesAt w a l) (hm : Below w.heap.size w w') : BytesAt w' a l :=
  h.mod (Mod.fresh hm (fun _ => False)) (fun _ _ _ => id)

theorem BytesAt.lt {w : World} {x : Addr} {l : List UInt8} (h : BytesAt w (some x) l) (hl : l ≠ []) : x.block < w.heap.size := by
  obtain ⟨b, off, e, hc⟩ := h hl
  cases e
  have h0 : 0 < l.length := List.length_pos_iff.2 hl
  exact block_lt_of_cell (hc 0 h0)

theorem BytesAt.below {B : Nat} {w w' : World} {a : Option Addr} {l : List UInt8} (h : BytesAt w a l) (hm : Below B w w') (hB : ∀ x, a = some x → l ≠ [] → x.block < B) : BytesAt w' a l :=
  h.mod (Mod.of_below hm) (fun x hx hl => by have := hB x hx hl; omega)

theorem bytesAt_cells {w : World} {a : Option Addr} {l : List UInt8} (h : BytesAt w a l) (hl : l ≠ []) :
    ∃ ad, a = some ad ∧ ∀ (j : Nat) u, (l.map byteV)[j]? = some u → w.cell? (ad.add j) = some u := by
  obtain ⟨b, off, rfl, hc⟩ := h hl
  refine ⟨_, rfl, fun j u hu => ?_⟩
  rw [List.getElem?_map] at hu
  cases hj : l[j]? with
  | none => rw [hj] at hu; simp at hu
  | some c =>
    rw [hj] at hu
    simp at hu
    subst hu
    obtain ⟨hlt, rfl⟩ := List.getElem?_eq_some_iff.1 hj
    have := hc j hlt
    unfold Addr.add
    split
    · subst_vars; simpa using this
    · exact this

theorem bytes_oneCell (l : List UInt8) : ∀ u ∈ l.map byteV, u.oneCell' = true := by
  intro u hu
  simp only [List.mem_map] at hu
  obtain ⟨c, _, rfl⟩ := hu
  rfl

theorem info5 : (Try.prog.info? 5).map (fun i => (i.zero, i.size, i.bytes)) = some (some (.int .u8 0), 1, 1) := by kernel_rfl

/-- so many noughts, as cells -/
def zerosV (n : Nat) : Array Value := ((List.replicate n (0 : UInt8)).map byteV).toArray

theorem madeCells_bytes (n : Nat) : madeCells (Value.cells (.int .u8 0)) (n * 1) = zerosV n := by
  apply Array.ext_getElem?
  intro i
  unfold madeCells zerosV Value.cells
  by_cases h : i < n <;> simp [h, Nat.mod_one]

theorem run_make_bytes (w : World) (n : Nat) (hn : n ≤ 281474976710656) :
    (Instr.makeSlice 22 (.int .i64 (n : Int)) (.int .i64 (n : Int))).run Try.prog w = .ok (.slice (some ⟨w.heap.size, 0, none⟩) n n) (w.alloc (.cells (zerosV n) 5)) := by
  obtain ⟨i, hi, hz, hs, hb⟩ := info_parts info5
  have h := run_make (P := Try.prog) w 22 5 i _ Try.underlying22 hi hz .i64 .i64 (n : Int) (n : Int) (by omega) (by omega) (by rw [hb]; omega) (by omega)
  rw [h, hs, Int.toNat_natCast, madeCells_bytes]

theorem bytesAt_zeros' {w : World} {n : Nat} {t : TypeId} {fz : Nat × Nat} {k : Nat} (hk : k = w.heap.size) : BytesAt (w.alloc (.cells (zerosV n) t fz)) (some ⟨k, 0, none⟩) (List.replicate n 0) :=
  bytesAt_new' hk rfl

/-! ### bytes that the call owns -/

/-- the slice value v owns the bytes l: nil, or a row of a block from B on -/
def OwnB (w : World) (B : Nat) (v : Value) (l : List UInt8) : Prop := w.ownsRow B 5 1 v l.length (l.map byteV)

theorem OwnB.nil (w : World) (B : Nat) : OwnB w B (.slice none 0 0) [] := World.ownsRow_nil w B 5 1

theorem OwnB.shape {w : World} {B : Nat} {v : Value} {l : List UInt8} (h : OwnB w B v l) : ∃ a cap, v = .slice a l.length cap ∧ l.length ≤ cap ∧ cap ≤ maxLen ∧ BytesAt w a l := by
  rcases h.2 with ⟨h1, h0⟩ | ⟨g, cap, cur, h1, h2, h3, h4, h5, h6, h7⟩
  · have e := List.eq_nil_of_length_eq_zero h0
    subst e
    exact ⟨none, 0, h1, Nat.le_refl _, by decide, BytesAt.nil _ _⟩
  · refine ⟨_, cap, h1, h4, h5, bytesAt_of_block h3 l (fun j hj => ?_)⟩
    have h8 := congrArg (fun x => x[j]?) h7
    simp only [List.getElem?_take, Nat.mul_one, hj, if_true, Nat.zero_add] at h8 ⊢
    rw [← Array.getElem?_toList, h8, List.getElem?_map, List.getElem?_eq_getElem hj]; rfl

theorem OwnB.row {w : World} {B : Nat} {v : Value} {l : List UInt8} (h : OwnB w B v l) (hl : l ≠ []) :
    ∃ g cap cur, v = .slice (some ⟨g, 0, none⟩) l.length cap ∧ B ≤ g ∧ w.heap[g]? = some (.cells cur 5 (0, 0)) ∧ l.length ≤ cap ∧ cap ≤ maxLen ∧ cur.size = cap ∧ (cur.toList.take l.length) = l.map byteV := by
  rcases h.2 with ⟨_, h0⟩ | ⟨g, cap, cur, h1, h2, h3, h4, h5, h6, h7⟩
  · exact absurd (List.eq_nil_of_length_eq_zero h0) hl
  · exact ⟨g, cap, cur, h1, h2, h3, h4, h5, by simpa using h6, by simpa using h7⟩

theorem OwnB.mod {F : Nat → Prop} {w w' : World} {B : Nat} {v : Value} {l : List UInt8} (h : OwnB w B v l) (hm : Mod F w w') (hF : ∀ k, v.ownBlock = some k → ¬ F k) : OwnB w' B v l := by
  refine ⟨h.1, ?_⟩
  rcases h.2 with hn | ⟨g, cap, cur, rfl, hb, hgg, rest⟩
  · exact .inl hn
  · exact .inr ⟨g, cap, cur, rfl, hb, hm.obj hgg (hF g rfl), rest⟩

theorem OwnB.fresh {w w' : World} {B : Nat} {v : Value} {l : List UInt8} (h : OwnB w B v l) (hm : Below w.heap.size w w') : OwnB w' B v l :=
  h.mod (Mod.fresh hm (fun _ => False)) (fun _ _ => id)

theorem OwnB.made (w : World) (B : Nat) (l : List UInt8) (C : Array Value) (hC : C = (l.map byteV).toArray) (hB : B ≤ w.heap.size) (hl : l.length ≤ maxLen) :
    OwnB (w.alloc (.cells C 5)) B (.slice (some ⟨w.heap.size, 0, none⟩) l.length l.length) l := by
  have h := World.ownsRow_lit (w := w) (base := B) (e := 5) (size := 1) C l.length hB hl (by rw [hC]; simp)
  rw [hC] at h ⊢
  exact h

/-- one store into an owned row -/
theorem OwnB.store {w : World} {B g n cap : Nat} {l : List UInt8} (h : OwnB w B (.slice (some ⟨g, 0, none⟩) n cap) l) (j : Nat) (c : UInt8) :
    OwnB (w.setCell ⟨g, j, none⟩ (byteV c)) B (.slice (some ⟨g, 0, none⟩) n cap) (l.set j c) := by
  have hn : n = l.length := by
    obtain ⟨a, cap', e, _⟩ := h.shape
    cases e; rfl
  subst hn
  have h2 := (World.ownsRow.stored h j (byteV c)).1
  unfold OwnB
  rw [List.length_set, List.map_set]
  exact h2

section
variable {w : World} {ops : Array Oper} {rest : List Oper} {o : Oper} {a : Act} {Q : Exit → Act → World → Prop}

/-- append(v, r...) on bytes that are owned -/
theorem appB (hgd : o.guard = none) (s x : Operand) (ho : o.op = .call { callee := .builtin .append, args := #[s, x], argTypes := #[22, 22] })
    (B : Nat) (v : Value) (l : List UInt8) (hs : a.eval s = v) (hown : OwnB w B v l)
    (ax : Option Addr) (m c : Nat) (r : List UInt8) (hx : a.eval x = .slice ax m c) (hm : r.length = m) (hc : ax = none → c = 0) (hr : BytesAt w ax r)
    (h47 : l.length + r.length ≤ 140737488355328) (hB : B ≤ w.heap.size)
    (h : ∀ v' w', OwnB w' B v' (l ++ r) → Mod (fun k => some k = v.ownBlock) w w' → (v' = .slice none 0 0 ↔ v = .slice none 0 0 ∧ r = []) → wpList Try.prog ops Q rest (a.put o.dst v') w') :
    wpList Try.prog ops Q (o :: rest) a w := by
  subst hm
  obtain ⟨i, hi, hz, hs1, hb1⟩ := info_parts info5
  cases ax with
  | none =>
    have hr0 : r = [] := by
      cases r with
      | nil => rfl
      | cons c r => obtain ⟨_, _, e, _⟩ := hr (by simp); cases e
    subst hr0
    have : c = 0 := hc rfl
    subst this
    refine wpList_append_own_none hgd s x 22 ho B 5 i 1 Try.underlying22 hi v _ _ hs hown hx ?_
    exact h v w (by simpa using hown) (Mod.refl _ _) (by simp)
  | some ad =>
    have hnews : ∀ (j : Nat) u, (r.map byteV)[j]? = some u → w.cell? (ad.add j) = some u := by
      by_cases hl : r = []
      · subst hl; intro j u hu; simp at hu
      · obtain ⟨ad', e, h1⟩ := bytesAt_cells hr hl
        cases e; exact h1
    refine wpList_append_own w hgd s x 22 ho B 5 i _ 1 1 Try.underlying22 hi hz hs1 hb1 rfl (by decide) v l.length (l.map byteV) hs hown ad r.length c (r.map byteV) hx (by simp) hnews (bytes_oneCell r)
      (by unfold maxLen; omega) (by omega) hB ?_
    intro v' w' h1 h2 h3
    refine h v' w' ?_ (Mod.grown h2) (by rw [h3]; simp)
    unfold OwnB
    rw [List.length_append, List.map_append]
    exact h1

/-- the same as one step of a region that draws its order -/
theorem appB_step {E : Prop} {K : Act → World → Prop} (hgd : o.guard = none) (s x : Operand) (ho : o.op = .call { callee := .builtin .append, args := #[s, x], argTypes := #[22, 22] })
    (B : Nat) (v : Value) (l : List UInt8) (hs : a.eval s = v) (hown : OwnB w B v l)
    (ax : Option Addr) (m c : Nat) (r : List UInt8) (hx : a.eval x = .slice ax m c) (hm : r.length = m) (hc : ax = none → c = 0) (hr : BytesAt w ax r)
    (h47 : l.length + r.length ≤ 140737488355328) (hB : B ≤ w.heap.size)
    (h : ∀ v' w', OwnB w' B v' (l ++ r) → Mod (fun k => some k = v.ownBlock) w w' → (v' = .slice none 0 0 ↔ v = .slice none 0 0 ∧ r = []) → K (a.put o.dst v') w') :
    if Region.wanted o (yielded ops a.tmps) = true then Oper.wp Try.prog o a w K Q else E := by
  rw [if_pos (by simp [Region.wanted, hgd])]
  subst hm
  obtain ⟨i, hi, hz, hs1, hb1⟩ := info_parts info5
  cases ax with
  | none =>
    have hr0 : r = [] := by
      cases r with
      | nil => rfl
      | cons c r => obtain ⟨_, _, e, _⟩ := hr (by simp); cases e
    subst hr0
    have : c = 0 := hc rfl
    subst this
    have hrun := run_append_owned_none (P := Try.prog) (w := w) B 22 o.type 5 i 1 Try.underlying22 hi v _ _ hown
    unfold Oper.wp
    simp [execOp, ho, resolve, invoke, builtin, hs, hx, hrun, Result.andThen]
    exact h v w (by simpa using hown) (Mod.refl _ _) (by simp)
  | some ad =>
    have hnews : ∀ (j : Nat) u, (r.map byteV)[j]? = some u → w.cell? (ad.add j) = some u := by
      by_cases hl : r = []
      · subst hl; intro j u hu; simp at hu
      · obtain ⟨ad', e, h1⟩ := bytesAt_cells hr hl
        cases e; exact h1
    refine wp_append_own w s x 22 ho B 5 i _ 1 1 Try.underlying22 hi hz hs1 hb1 rfl (by decide) v l.length (l.map byteV) hs hown ad r.length c (r.map byteV) hx (by simp) hnews (bytes_oneCell r)
      (by unfold maxLen; omega) (by omega) hB ?_
    intro v' w' h1 h2 h3
    refine h v' w' ?_ (Mod.grown h2) (by rw [h3]; simp)
    unfold OwnB
    rw [List.length_append, List.map_append]
    exact h1

/-- make([]byte, n) -/
theorem mkB (hgd : o.guard = none) (x y : Operand) (ho : o.op = .makeSlice 22 x y) (n : Nat) (hx : a.eval x = .int .i64 (n : Int)) (hy : a.eval y = .int .i64 (n : Int)) (hn : n ≤ 140737488355328)
    (B : Nat) (hB : B ≤ w.heap.size)
    (h : ∀ w', OwnB w' B (.slice (some ⟨w.heap.size, 0, none⟩) n n) (List.replicate n 0) → Mod (fun _ => False) w w' → w'.heap.size = w.heap.size + 1 → wpList Try.prog ops Q rest (a.put o.dst (.slice (some ⟨w.heap.size, 0, none⟩) n n)) w') :
    wpList Try.prog ops Q (o :: rest) a w := by
  refine wpList_plain hgd fun K hK => ?_
  have hrun := run_make_bytes w n (by omega)
  unfold Oper.wp
  simp [execOp, ho, hx, hy, hrun, Result.andThen]
  refine hK _ _ (h _ ?_ (Mod.alloc _ _ _) (by simp))
  have := OwnB.made w B (List.replicate n 0) (zerosV n) rfl hB (by simp [maxLen]; omega)
  simpa using this
end

end Go.Proofs.Ytdinnkacilgmmaa
