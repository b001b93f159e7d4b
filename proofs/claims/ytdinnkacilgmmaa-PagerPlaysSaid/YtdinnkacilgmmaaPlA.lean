/- What RowPagerPlays needs, part 1. -/
import Derived.Test.YtdinnkacilgmmaaRows
import Derived.Test.YtdinnkacilgmmaaChecked
import Derived.WalkKit
import Derived.Lib.Hide
import Derived.Laws.AppendOwnNone
import Derived.Laws.CopyOwn
import Derived.ProofKit
import Derived.OpenShut
import Derived.ShutString
import Derived.ChangeOld
import Derived.SizedLaws
import Derived.Lib.SlBytesConst
import Derived.Deep.LoopGhost
import Derived.RangeFuncBox
import Derived.RangeFuncCalls
import Derived.RangeFuncLeaves
import Derived.OwnWalkIn
import Derived.TacticsInMore
import Derived.LoopNIn
import Derived.LoopIn
import Derived.BigFrameIn
import Derived.BigGuardIn
namespace Go.Proofs.Ytdinnkacilgmmaa
open Go.RowKit

theorem ret_val {a b : Value} (h : a = b) : Ending.returned a = .returned b := by rw [h]

/-! ### what may have turned -/

/-- w' is w, but for blocks of F and new ones -/
structure Mod (F : Nat → Prop) (w w' : World) : Prop where
  os : w'.os = w.os
  tape : w'.tape = w.tape
  output : w'.output = w.output
  size : w.heap.size ≤ w'.heap.size
  block : ∀ k, k < w.heap.size → ¬ F k → w'.heap[k]? = w.heap[k]?

theorem Mod.refl (F : Nat → Prop) (w : World) : Mod F w w := ⟨rfl, rfl, rfl, Nat.le_refl _, fun _ _ _ => rfl⟩

theorem Mod.trans {F G : Nat → Prop} {w w1 w2 : World} (h : Mod F w w1) (k : Mod G w1 w2) (hFG : ∀ i, i < w.heap.size → G i → F i) : Mod F w w2 :=
  ⟨k.os.trans h.os, k.tape.trans h.tape, k.output.trans h.output, Nat.le_trans h.size k.size,
    fun i hi hF => (k.block i (Nat.lt_of_lt_of_le hi h.size) (fun hG => hF (hFG i hi hG))).trans (h.block i hi hF)⟩

theorem Mod.trans' {F : Nat → Prop} {w w1 w2 : World} (h : Mod F w w1) (k : Mod F w1 w2) : Mod F w w2 := h.trans k (fun _ _ h => h)

theorem Mod.mono {F G : Nat → Prop} {w w' : World} (h : Mod F w w') (hFG : ∀ i, i < w.heap.size → F i → G i) : Mod G w w' :=
  ⟨h.os, h.tape, h.output, h.size, fun i hi hG => h.block i hi (fun hF => hG (hFG i hi hF))⟩

theorem Mod.grown {w w' : World} {row : Option Nat} (h : w.grownBy w' row) : Mod (fun k => some k = row) w w' :=
  ⟨h.os, h.tape, h.output, h.size, fun k hk hF => h.block k hk hF⟩

theorem Mod.alloc (F : Nat → Prop) (w : World) (o : Obj) : Mod F w (w.alloc o) :=
  ⟨rfl, rfl, rfl, by simp, fun k hk _ => Below.heap_alloc w o k hk⟩

theorem Mod.drew (F : Nat → Prop) (w : World) : Mod F w w.drew := ⟨rfl, rfl, rfl, Nat.le_refl _, fun _ _ _ => rfl⟩

theorem Mod.setCell {F : Nat → Prop} (w : World) (a : Addr) (v : Value) (h : F a.block) : Mod F w (w.setCell a v) :=
  ⟨rfl, rfl, rfl, by simp [World.setCell], fun k _ hF => Below.heap_setCell w a v k (fun e => hF (e ▸ h))⟩

theorem Mod.setRow {F : Nat → Prop} (w : World) (g : Nat) (cs : Array Value) (h : F g) : Mod F w (w.setRow g cs) :=
  ⟨rfl, rfl, rfl, by simp, fun k _ hF => setRow_other w g k cs (fun e => hF (e ▸ h))⟩

theorem Mod.below {F : Nat → Prop} {B : Nat} {w w' : World} (h : Mod F w w') (hF : ∀ k, F k → B ≤ k) (hB : B ≤ w.heap.size) : Below B w w' :=
  ⟨h.os, h.tape, h.output, h.size, fun k hk => h.block k (by omega) (fun hf => by have := hF k hf; omega)⟩

theorem Mod.of_below {B : Nat} {w w' : World} (h : Below B w w') : Mod (fun k => B ≤ k) w w' :=
  ⟨h.os, h.tape, h.output, h.size, fun k _ hk => h.block k (by omega)⟩

/-- nothing that was there has turned -/
theorem Mod.fresh {w w' : World} (h : Below w.heap.size w w') (F : Nat → Prop) : Mod F w w' :=
  ⟨h.os, h.tape, h.output, h.size, fun k hk _ => h.block k hk⟩

theorem Mod.cell {F : Nat → Prop} {w w' : World} (h : Mod F w w') {p : Addr} (hk : p.block < w.heap.size) (hF : ¬ F p.block) : w'.cell? p = w.cell? p :=
  World.cell?_of_block (w := w) (h.block p.block hk hF)

theorem Mod.cell' {F : Nat → Prop} {w w' : World} (h : Mod F w w') {p : Addr} {v : Value} (hv : w.cell? p = some v) (hF : ¬ F p.block) : w'.cell? p = some v :=
  (h.cell (World.block_lt_of_cell? w p hv) hF).trans hv

theorem lt_of_block {w : World} {k : Nat} {o : Obj} (h : w.heap[k]? = some o) : k < w.heap.size := (Array.getElem?_eq_some_iff.1 h).1

theorem Mod.obj {F : Nat → Prop} {w w' : World} (h : Mod F w w') {k : Nat} {o : Obj} (hk : w.heap[k]? = some o) (hF : ¬ F k) : w'.heap[k]? = some o :=
  (h.block k (lt_of_block hk) hF).trans hk

/-! ### bytes -/

/-- a byte as a value -/
abbrev byteV (c : UInt8) : Value := .int .u8 (c.toNat : Int)

/-- what a slice of bytes reads as: where there is a byte, there is a row that holds them -/
def BytesAt (w : World) (a : Option Addr) (l : List UInt8) : Prop :=
  l ≠ [] → ∃ b off, a = some ⟨b, off, none⟩ ∧ ∀ j (h : j < l.length), w.cell? ⟨b, off + j, none⟩ = some (byteV l[j])

theorem BytesAt.nil (w : World) (a : Option Addr) : BytesAt w a [] := fun h => absurd rfl h

theorem bytesAt_of_block {w : World} {b off : Nat} {C : Array Value} {t : TypeId} {fz : Nat × Nat} (h : w.heap[b]? = some (.cells C t fz)) (l : List UInt8)
    (hc : ∀ j (hj : j < l.length), C[off + j]? = some (byteV l[j])) : BytesAt w (some ⟨b, off, none⟩) l := by
  intro _
  refine ⟨b, off, rfl, fun j hj => ?_⟩
  rw [cell_of_row w b (off + j) C t fz h]
  exact hc j hj

theorem bytesAt_new (w : World) (l : List UInt8) (t : TypeId) (fz : Nat × Nat) : BytesAt (w.alloc (.cells (l.map byteV).toArray t fz)) (some ⟨w.heap.size, 0, none⟩) l :=
  bytesAt_of_block (heap_alloc_new w _) l (fun j hj => by simp [hj])

theorem bytesAt_new' {w : World} {l : List UInt8} {C : Array Value} {t : TypeId} {fz : Nat × Nat} {k : Nat} (hk : k = w.heap.size) (hC : C = (l.map byteV).toArray) : BytesAt (w.alloc (.cells C t fz)) (some ⟨k, 0, none⟩) l := by
  subst hk; subst hC; exact bytesAt_new w l t fz

theorem BytesAt.mod {F : Nat → Prop} {w w' : World} {a : Option Addr} {l : List UInt8} (h : BytesAt w a l) (hm : Mod F w w') (hF : ∀ x, a = some x → l ≠ [] → ¬ F x.block) : BytesAt w' a l := by
  intro hl
  obtain ⟨b, off, rfl, hc⟩ := h hl
  exact ⟨b, off, rfl, fun j hj => hm.cell' (hc j hj) (show ¬ F b from hF ⟨b, off, none⟩ rfl hl)⟩

theorem BytesAt.fresh {w w' : World} {a : Option Addr} {l : List UInt8} (h : BytesAt w a l) (hm : Below w.heap.size w w') : BytesAt w' a l :=
  h.mod (Mod.fresh hm (fun _ => False)) (fun _ _ _ => id)

theorem BytesAt.lt {w : World} {x : Addr} {l : List UInt8} (h : BytesAt w (some x) l) (hl : l ≠ []) : x.block < w.heap.size := by
  obtain ⟨b, off, e, hc⟩ := h hl
  cases e
  have h0 : 0 < l.length := List.length_pos_iff.2 hl
  exact block_lt_of_cell (hc 0 h0)

theorem BytesAt.below {B : Nat} {w w' : World} {a : Option Addr} {l : List UInt8} (h : BytesAt w a l) (hm : Below B w w') (hB : ∀ x, a = some x → l ≠ [] → x.block < B) : BytesAt w' a l :=
  h.mod (Mod.of_below hm) (fun x hx hl => by have := hB x hx hl; omega)

theorem bytesAt_cells {w : World} {a : Option Addr} {l : List UInt8} (h : BytesAt w a l) (hl : l ≠ []) :
    ∃ ad, a = some ad ∧ ∀ (j : Nat) u, (l.map byteV)[j]? = some u → w.cell? (ad.add j) = some u := by
  obtain ⟨b, off, rfl, hc⟩ := h hl
  refine ⟨_, rfl, fun j u hu => ?_⟩
  rw [List.getElem?_map] at hu
  cases hj : l[j]? with
  | none => rw [hj] at hu; simp at hu
  | some c =>
    rw [hj] at hu
    simp at hu
    subst hu
    obtain ⟨hlt, rfl⟩ := List.getElem?_eq_some_iff.1 hj
    have := hc j hlt
    unfold Addr.add
    split
    · subst_vars; simpa using this
    · exact this

theorem bytes_oneCell (l : List UInt8) : ∀ u ∈ l.map byteV, u.oneCell' = true := by
  intro u hu
  simp only [List.mem_map] at hu
  obtain ⟨c, _, rfl⟩ := hu
  rfl

theorem info5 : (Try.prog.info? 5).map (fun i => (i.zero, i.size, i.bytes)) = some (some (.int .u8 0), 1, 1) := by kernel_rfl

/-- so many noughts, as cells -/
def zerosV (n : Nat) : Array Value := ((List.replicate n (0 : UInt8)).map byteV).toArray

theorem madeCells_bytes (n : Nat) : madeCells (Value.cells (.int .u8 0)) (n * 1) = zerosV n := by
  apply Array.ext_getElem?
  intro i
  unfold madeCells zerosV Value.cells
  by_cases h : i < n <;> simp [h, Nat.mod_one]

theorem run_make_bytes (w : World) (n : Nat) (hn : n ≤ 281474976710656) :
    (Instr.makeSlice 22 (.int .i64 (n : Int)) (.int .i64 (n : Int))).run Try.prog w = .ok (.slice (some ⟨w.heap.size, 0, none⟩) n n) (w.alloc (.cells (zerosV n) 5)) := by
  obtain ⟨i, hi, hz, hs, hb⟩ := info_parts info5
  have h := run_make (P := Try.prog) w 22 5 i _ Try.underlying22 hi hz .i64 .i64 (n : Int) (n : Int) (by omega) (by omega) (by rw [hb]; omega) (by omega)
  rw [h, hs, Int.toNat_natCast, madeCells_bytes]

theorem bytesAt_zeros' {w : World} {n : Nat} {t : TypeId} {fz : Nat × Nat} {k : Nat} (hk : k = w.heap.size) : BytesAt (w.alloc (.cells (zerosV n) t fz)) (some ⟨k, 0, none⟩) (List.replicate n 0) :=
  bytesAt_new' hk rfl

/-! ### bytes that the call owns -/

/-- the slice value v owns the bytes l: nil, or a row of a block from B on -/
def OwnB (w : World) (B : Nat) (v : Value) (l : List UInt8) : Prop := w.ownsRow B 5 1 v l.length (l.map byteV)

theorem OwnB.nil (w : World) (B : Nat) : OwnB w B (.slice none 0 0) [] := World.ownsRow_nil w B 5 1

theorem OwnB.shape {w : World} {B : Nat} {v : Value} {l : List UInt8} (h : OwnB w B v l) : ∃ a cap, v = .slice a l.length cap ∧ l.length ≤ cap ∧ cap ≤ maxLen ∧ BytesAt w a l := by
  rcases h.2 with ⟨h1, h0⟩ | ⟨g, cap, cur, h1, h2, h3, h4, h5, h6, h7⟩
  · have e := List.eq_nil_of_length_eq_zero h0
    subst e
    exact ⟨none, 0, h1, Nat.le_refl _, by decide, BytesAt.nil _ _⟩
  · refine ⟨_, cap, h1, h4, h5, bytesAt_of_block h3 l (fun j hj => ?_)⟩
    have h8 := congrArg (fun x => x[j]?) h7
    simp only [List.getElem?_take, Nat.mul_one, hj, if_true, Nat.zero_add] at h8 ⊢
    rw [← Array.getElem?_toList, h8, List.getElem?_map, List.getElem?_eq_getElem hj]; rfl

theorem OwnB.row {w : World} {B : Nat} {v : Value} {l : List UInt8} (h : OwnB w B v l) (hl : l ≠ []) :
    ∃ g cap cur, v = .slice (some ⟨g, 0, none⟩) l.length cap ∧ B ≤ g ∧ w.heap[g]? = some (.cells cur 5 (0, 0)) ∧ l.length ≤ cap ∧ cap ≤ maxLen ∧ cur.size = cap ∧ (cur.toList.take l.length) = l.map byteV := by
  rcases h.2 with ⟨_, h0⟩ | ⟨g, cap, cur, h1, h2, h3, h4, h5, h6, h7⟩
  · exact absurd (List.eq_nil_of_length_eq_zero h0) hl
  · exact ⟨g, cap, cur, h1, h2, h3, h4, h5, by simpa using h6, by simpa using h7⟩

theorem OwnB.mod {F : Nat → Prop} {w w' : World} {B : Nat} {v : Value} {l : List UInt8} (h : OwnB w B v l) (hm : Mod F w w') (hF : ∀ k, v.ownBlock = some k → ¬ F k) : OwnB w' B v l := by
  refine ⟨h.1, ?_⟩
  rcases h.2 with hn | ⟨g, cap, cur, rfl, hb, hgg, rest⟩
  · exact .inl hn
  · exact .inr ⟨g, cap, cur, rfl, hb, hm.obj hgg (hF g rfl), rest⟩

theorem OwnB.fresh {w w' : World} {B : Nat} {v : Value} {l : List UInt8} (h : OwnB w B v l) (hm : Below w.heap.size w w') : OwnB w' B v l :=
  h.mod (Mod.fresh hm (fun _ => False)) (fun _ _ => id)

theorem OwnB.made (w : World) (B : Nat) (l : List UInt8) (C : Array Value) (hC : C = (l.map byteV).toArray) (hB : B ≤ w.heap.size) (hl : l.length ≤ maxLen) :
    OwnB (w.alloc (.cells C 5)) B (.slice (some ⟨w.heap.size, 0, none⟩) l.length l.length) l := by
  have h := World.ownsRow_lit (w := w) (base := B) (e := 5) (size := 1) C l.length hB hl (by rw [hC]; simp)
  rw [hC] at h ⊢
  exact h

/-- one store into an owned row -/
theorem OwnB.store {w : World} {B g n cap : Nat} {l : List UInt8} (h : OwnB w B (.slice (some ⟨g, 0, none⟩) n cap) l) (j : Nat) (c : UInt8) :
    OwnB (w.setCell ⟨g, j, none⟩ (byteV c)) B (.slice (some ⟨g, 0, none⟩) n cap) (l.set j c) := by
  have hn : n = l.length := by
    obtain ⟨a, cap', e, _⟩ := h.shape
    cases e; rfl
  subst hn
  have h2 := (World.ownsRow.stored h j (byteV c)).1
  unfold OwnB
  rw [List.length_set, List.map_set]
  exact h2

section
variable {w : World} {ops : Array Oper} {rest : List Oper} {o : Oper} {a : Act} {Q : Exit → Act → World → Prop}

/-- append(v, r...) on bytes that are owned -/
theorem appB (hgd : o.guard = none) (s x : Operand) (ho : o.op = .call { callee := .builtin .append, args := #[s, x], argTypes := #[22, 22] })
    (B : Nat) (v : Value) (l : List UInt8) (hs : a.eval s = v) (hown : OwnB w B v l)
    (ax : Option Addr) (m c : Nat) (r : List UInt8) (hx : a.eval x = .slice ax m c) (hm : r.length = m) (hc : ax = none → c = 0) (hr : BytesAt w ax r)
    (h47 : l.length + r.length ≤ 140737488355328) (hB : B ≤ w.heap.size)
    (h : ∀ v' w', OwnB w' B v' (l ++ r) → Mod (fun k => some k = v.ownBlock) w w' → (v' = .slice none 0 0 ↔ v = .slice none 0 0 ∧ r = []) → wpList Try.prog ops Q rest (a.put o.dst v') w') :
    wpList Try.prog ops Q (o :: rest) a w := by
  subst hm
  obtain ⟨i, hi, hz, hs1, hb1⟩ := info_parts info5
  cases ax with
  | none =>
    have hr0 : r = [] := by
      cases r with
      | nil => rfl
      | cons c r => obtain ⟨_, _, e, _⟩ := hr (by simp); cases e
    subst hr0
    have : c = 0 := hc rfl
    subst this
    refine wpList_append_own_none hgd s x 22 ho B 5 i 1 Try.underlying22 hi v _ _ hs hown hx ?_
    exact h v w (by simpa using hown) (Mod.refl _ _) (by simp)
  | some ad =>
    have hnews : ∀ (j : Nat) u, (r.map byteV)[j]? = some u → w.cell? (ad.add j) = some u := by
      by_cases hl : r = []
      · subst hl; intro j u hu; simp at hu
      · obtain ⟨ad', e, h1⟩ := bytesAt_cells hr hl
        cases e; exact h1
    refine wpList_append_own w hgd s x 22 ho B 5 i _ 1 1 Try.underlying22 hi hz hs1 hb1 rfl (by decide) v l.length (l.map byteV) hs hown ad r.length c (r.map byteV) hx (by simp) hnews (bytes_oneCell r)
      (by unfold maxLen; omega) (by omega) hB ?_
    intro v' w' h1 h2 h3
    refine h v' w' ?_ (Mod.grown h2) (by rw [h3]; simp)
    unfold OwnB
    rw [List.length_append, List.map_append]
    exact h1

/-- the same as one step of a region that draws its order -/
theorem appB_step {E : Prop} {K : Act → World → Prop} (hgd : o.guard = none) (s x : Operand) (ho : o.op = .call { callee := .builtin .append, args := #[s, x], argTypes := #[22, 22] })
    (B : Nat) (v : Value) (l : List UInt8) (hs : a.eval s = v) (hown : OwnB w B v l)
    (ax : Option Addr) (m c : Nat) (r : List UInt8) (hx : a.eval x = .slice ax m c) (hm : r.length = m) (hc : ax = none → c = 0) (hr : BytesAt w ax r)
    (h47 : l.length + r.length ≤ 140737488355328) (hB : B ≤ w.heap.size)
    (h : ∀ v' w', OwnB w' B v' (l ++ r) → Mod (fun k => some k = v.ownBlock) w w' → (v' = .slice none 0 0 ↔ v = .slice none 0 0 ∧ r = []) → K (a.put o.dst v') w') :
    if Region.wanted o (yielded ops a.tmps) = true then Oper.wp Try.prog o a w K Q else E := by
  rw [if_pos (by simp [Region.wanted, hgd])]
  subst hm
  obtain ⟨i, hi, hz, hs1, hb1⟩ := info_parts info5
  cases ax with
  | none =>
    have hr0 : r = [] := by
      cases r with
      | nil => rfl
      | cons c r => obtain ⟨_, _, e, _⟩ := hr (by simp); cases e
    subst hr0
    have : c = 0 := hc rfl
    subst this
    have hrun := run_append_owned_none (P := Try.prog) (w := w) B 22 o.type 5 i 1 Try.underlying22 hi v _ _ hown
    unfold Oper.wp
    simp [execOp, ho, resolve, invoke, builtin, hs, hx, hrun, Result.andThen]
    exact h v w (by simpa using hown) (Mod.refl _ _) (by simp)
  | some ad =>
    have hnews : ∀ (j : Nat) u, (r.map byteV)[j]? = some u → w.cell? (ad.add j) = some u := by
      by_cases hl : r = []
      · subst hl; intro j u hu; simp at hu
      · obtain ⟨ad', e, h1⟩ := bytesAt_cells hr hl
        cases e; exact h1
    refine wp_append_own w s x 22 ho B 5 i _ 1 1 Try.underlying22 hi hz hs1 hb1 rfl (by decide) v l.length (l.map byteV) hs hown ad r.length c (r.map byteV) hx (by simp) hnews (bytes_oneCell r)
      (by unfold maxLen; omega) (by omega) hB ?_
    intro v' w' h1 h2 h3
    refine h v' w' ?_ (Mod.grown h2) (by rw [h3]; simp)
    unfold OwnB
    rw [List.length_append, List.map_append]
    exact h1

end

end Go.Proofs.Ytdinnkacilgmmaa
namespace Go.Proofs.Ytdinnkacilgmmaa
open Go.ChangeShapes Go.WideShapes Go.ChangeAt Go.RowKit
open Go.ChangeMaps (open_string shut_string)

theorem own : ownKnob Try.prog.godebug = none := by kernel_rfl
theorem laidOut : laidOutB Try.prog = true := by kernel_rfl
theorem cells5 : Try.prog.cellsOf 5 = 1 := by kernel_rfl
theorem bytes5 : Try.prog.bytesOf 5 = 1 := by kernel_rfl

/-- a byte that fits, as a byte -/
theorem byte_of_wf {n : Int} (h : (Lit.int .u8 n).wf = true) : Value.int .u8 n = byteV (UInt8.ofNat n.toNat) := by
  have hb := bounds_u8 h
  have e : (UInt8.ofNat n.toNat).toNat = n.toNat := by
    rw [UInt8.toNat_ofNat']; omega
  show Value.int .u8 n = Value.int .u8 _
  rw [e]
  congr 1
  omega

/-- a slice of bytes that came in -/
def RdB (W : World) (v : Value) (l : List UInt8) : Prop :=
  ∃ a cap, v = .slice a l.length cap ∧ BytesAt W a l ∧ (a = none → cap = 0) ∧ l.length ≤ 140737488351232 ∧ l.length ≤ cap

section
variable {H : Type} {enc : TypeId × Value → H} {W : World}

theorem add_none_spot {x : Addr} {i : Nat} {v : Value} (h : W.cell? (x.add i) = some v) (hi : 0 < i ∨ x.spot = none) : (x.add i) = ⟨x.block, x.off + i, none⟩ := by
  unfold Addr.add
  split
  · rename_i e
    subst e
    rcases hi with hi | hi
    · omega
    · cases x; simp_all
  · rfl

theorem bytesAt_ints {x : Addr} {zs : List Int} {len : Nat} (hl : len ≤ zs.length) (hc : ∀ i, i < zs.length → W.cell? (x.add i) = some (.int .u8 (zs.getD i 0))) (hw : ∀ n ∈ zs, (Lit.int .u8 n).wf = true) :
    BytesAt W (some x) ((zs.take len).map fun n => UInt8.ofNat n.toNat) := by
  intro hne
  have hlen : 0 < len := by
    rcases Nat.eq_zero_or_pos len with h | h
    · subst h; simp at hne
    · exact h
  have h0 := hc 0 (by omega)
  have hs : x.spot = none := by simpa [Addr.add] using World.cell?_spot h0
  refine ⟨x.block, x.off, by cases x; simp_all, fun j hj => ?_⟩
  have hj' : j < len := by simp at hj; omega
  have h1 := hc j (by omega)
  rw [add_none_spot h1 (.inr hs)] at h1
  rw [h1]
  have hz : zs.getD j 0 = zs[j] := by simp [show j < zs.length by omega]
  rw [hz, byte_of_wf (hw _ (List.getElem_mem _))]
  simp

theorem rd_bytes {v : Value} {d : DataW H} {p : List MemPlace} (hv : ∃ a len cap, v = .slice a len cap) (h : DataW.Trod enc Try.prog W 0 (fun _ => true) true 22 v d p) (hw : ∀ n ∈ d.weights Try.prog 22, n ≤ reachBytes) : ∃ l, RdB W v l := by
  obtain ⟨a, len, cap, rfl⟩ := hv
  obtain ⟨fuel, hf⟩ := h
  rcases open_ints Try.underlying22 Try.underlying5 cells5 hf with ⟨hcs, _⟩ | ⟨x, l, c, zs, hcs, _, hl, hm, hz, hx, hcell, hwz⟩
  · simp [Value.cells] at hcs
    obtain ⟨rfl, rfl, rfl⟩ := hcs
    exact ⟨[], none, 0, rfl, BytesAt.nil _ _, fun _ => rfl, by simp, by simp⟩
  · simp [Value.cells] at hcs
    obtain ⟨rfl, rfl, rfl⟩ := hcs
    simp at hz
    refine ⟨(zs.take len).map fun n => UInt8.ofNat n.toNat, some x, cap, by simp [hz, Nat.min_eq_left hl], bytesAt_ints (by omega) hcell hwz, (fun e => by cases e), ?_, by simp; omega⟩
    have e := congrArg Prod.fst hx
    simp only at e
    subst e
    simp only [DataW.weights, Try.underlying22] at hw
    have := hw _ List.mem_cons_self
    rw [bytes5] at this
    simp [lits, reachBytes] at this ⊢
    omega

theorem weights_of {ts : List TypeId} {ds : List (DataW H)} {j : Nat} {t : TypeId} {d : DataW H} (h : (DataW.weightsEach Try.prog ts ds).all (· ≤ reachBytes) = true) (ht : ts[j]? = some t) (hd : ds[j]? = some d) : ∀ n ∈ d.weights Try.prog t, n ≤ reachBytes := by
  intro n hn
  have := List.all_eq_true.1 h n (DataW.weights_mem_each ht hd n hn)
  simpa using this

theorem trod_lt' {t : TypeId} {v : Value} {d : DataW H} {p : List MemPlace} (h : DataW.Trod enc Try.prog W 0 (fun _ => true) true t v d p) : ∀ x ∈ p, x.block < W.heap.size := by
  obtain ⟨m, hm⟩ := h; exact DataW.trod_lt m _ _ _ hm
end
end Go.Proofs.Ytdinnkacilgmmaa
namespace Go.Proofs.Ytdinnkacilgmmaa

/-- one shift of the register -/
def sh (r : BitVec 32) : BitVec 32 := (r >>> 1) ^^^ (if r.getLsbD 0 then 0x82f63b78#32 else 0#32)

theorem sh_xor (a b : BitVec 32) : sh (a ^^^ b) = sh a ^^^ sh b := by
  unfold sh
  rw [BitVec.ushiftRight_xor_distrib, BitVec.getLsbD_xor]
  have z (p q : BitVec 32) : p ^^^ (p ^^^ q) = q := by rw [← BitVec.xor_assoc, BitVec.xor_self, BitVec.zero_xor]
  cases a.getLsbD 0 <;> cases b.getLsbD 0 <;> simp <;> first | ac_rfl | (rw [show a >>> 1 ^^^ 2197175160#32 ^^^ (b >>> 1 ^^^ 2197175160#32) = 2197175160#32 ^^^ (2197175160#32 ^^^ (a >>> 1 ^^^ b >>> 1)) by ac_rfl, z])

theorem sh_zero : sh 0#32 = 0#32 := by decide

theorem sh_inj0 (r : BitVec 32) (h : sh r = 0#32) : r = 0#32 := by
  unfold sh at h
  by_cases h0 : r.getLsbD 0 = true
  · exfalso
    rw [if_pos h0] at h
    have := congrArg (fun x => BitVec.getLsbD x 31) h
    simp at this
  · rw [if_neg h0] at h
    apply BitVec.eq_of_getLsbD_eq
    intro i hi
    by_cases hz : i = 0
    · subst hz; simpa using h0
    · have := congrArg (fun x => BitVec.getLsbD x (i - 1)) h
      simp at this
      rw [show 1 + (i - 1) = i by omega] at this
      simpa using this

/-- so many shifts -/
def shn : Nat → BitVec 32 → BitVec 32
  | 0, r => r
  | n + 1, r => shn n (sh r)

theorem shn_add (m n : Nat) (r : BitVec 32) : shn (m + n) r = shn n (shn m r) := by
  induction m generalizing r with
  | zero => simp [shn]
  | succ m ih => rw [show m + 1 + n = (m + n) + 1 by omega]; simp only [shn]; exact ih _

theorem shn_xor (n : Nat) (a b : BitVec 32) : shn n (a ^^^ b) = shn n a ^^^ shn n b := by
  induction n generalizing a b with
  | zero => rfl
  | succ n ih => simp only [shn, sh_xor, ih]

theorem shn_zero (n : Nat) : shn n 0#32 = 0#32 := by
  induction n with
  | zero => rfl
  | succ n ih => simp only [shn, sh_zero, ih]

theorem shn_inj0 (n : Nat) (r : BitVec 32) (h : shn n r = 0#32) : r = 0#32 := by
  induction n generalizing r with
  | zero => exact h
  | succ n ih => exact sh_inj0 r (ih _ h)

/-- a byte as a register -/
def ext (c : UInt8) : BitVec 32 := c.toBitVec.setWidth 32

/-- the register behind a byte -/
def stepB (r : BitVec 32) (c : UInt8) : BitVec 32 := shn 8 (r ^^^ ext c)

/-- the register behind bytes -/
def reg (r : BitVec 32) (l : List UInt8) : BitVec 32 := l.foldl stepB r

/-- the sum of more bytes -/
def more (s : BitVec 32) (l : List UInt8) : BitVec 32 := ~~~ (reg (~~~ s) l)

/-- the sum of bytes -/
def crc (l : List UInt8) : BitVec 32 := more 0#32 l

theorem reg_append (r : BitVec 32) (a b : List UInt8) : reg r (a ++ b) = reg (reg r a) b := by simp [reg]

/-- the register is turned by a turned register alone -/
theorem reg_xor (r s : BitVec 32) (l : List UInt8) : reg (r ^^^ s) l = reg r l ^^^ shn (8 * l.length) s := by
  induction l generalizing r s with
  | nil => rfl
  | cons c l ih =>
    have e : stepB (r ^^^ s) c = stepB r c ^^^ shn 8 s := by
      unfold stepB
      rw [← shn_xor]
      congr 1
      ac_rfl
    show reg (stepB (r ^^^ s) c) l = reg (stepB r c) l ^^^ _
    rw [e, ih, List.length_cons, show 8 * (l.length + 1) = 8 + 8 * l.length by omega, shn_add]

/-! ### a turned bit -/

theorem shn_pow (i : Nat) (h : i < 32) : shn i (1#32 <<< i) = 1#32 := by
  have : ∀ j, j < 32 → shn j (1#32 <<< j) = 1#32 := by decide
  exact this i h

theorem ext_pow (k : Nat) (h : k < 8) : ext (1 <<< UInt8.ofNat k) = 1#32 <<< k := by
  have : ∀ j, j < 8 → ext (1 <<< UInt8.ofNat j) = 1#32 <<< j := by decide
  exact this k h

theorem ext_xor (c d : UInt8) : ext (c ^^^ d) = ext c ^^^ ext d := by
  unfold ext
  apply BitVec.eq_of_getLsbD_eq
  intro i hi
  simp [BitVec.getLsbD_setWidth]

/-- one bit turned turns the register by what becomes of that bit -/
theorem reg_flip (r : BitVec 32) (l : List UInt8) (j k : Nat) (hj : j < l.length) (hk : k < 8) :
    reg r (l.set j (l[j] ^^^ (1 <<< UInt8.ofNat k))) = reg r l ^^^ shn (8 * l.length - (8 * j + k)) 1#32 := by
  induction l generalizing r j with
  | nil => simp at hj
  | cons c l ih =>
    cases j with
    | zero =>
      show reg (stepB r (c ^^^ (1 <<< UInt8.ofNat k))) l = reg (stepB r c) l ^^^ _
      have e : stepB r (c ^^^ (1 <<< UInt8.ofNat k)) = stepB r c ^^^ shn (8 - k) 1#32 := by
        unfold stepB
        rw [ext_xor, ext_pow k hk, ← BitVec.xor_assoc, shn_xor]
        congr 1
        rw [show shn 8 (1#32 <<< k) = shn (k + (8 - k)) (1#32 <<< k) by rw [show k + (8 - k) = 8 by omega], shn_add, shn_pow k (by omega)]
      rw [e, reg_xor, ← shn_add, List.length_cons, show 8 - k + 8 * l.length = 8 * (l.length + 1) - (8 * 0 + k) by omega]
    | succ j =>
      show reg (stepB r c) _ = reg (stepB r c) l ^^^ _
      rw [List.length_cons, show 8 * (l.length + 1) - (8 * (j + 1) + k) = 8 * l.length - (8 * j + k) by omega]
      exact ih (stepB r c) j (by simpa using hj)

/-- the lowest i bits of a number -/
def low (i : Nat) (bits : BitVec 32) : BitVec 32 := bits &&& BitVec.ofNat 32 (2 ^ i - 1)

theorem low_get (i : Nat) (bits : BitVec 32) (k : Nat) : (low i bits).getLsbD k = (bits.getLsbD k && decide (k < i)) := by
  unfold low
  rw [BitVec.getLsbD_and, BitVec.getLsbD_ofNat, Nat.testBit_two_pow_sub_one]
  by_cases hk : k < 32
  · simp [hk]
  · rw [BitVec.getLsbD_of_ge bits k (by omega)]; simp

theorem low_zero (bits : BitVec 32) : low 0 bits = 0#32 := by simp [low]

theorem low_succ (i : Nat) (h : i < 32) (bits : BitVec 32) : low (i + 1) bits = if bits.getLsbD i then low i bits ^^^ (1#32 <<< i) else low i bits := by
  apply BitVec.eq_of_getLsbD_eq
  intro k hk
  rw [low_get]
  by_cases hb : bits.getLsbD i = true
  · rw [if_pos hb, BitVec.getLsbD_xor, low_get, BitVec.getLsbD_shiftLeft]
    by_cases e : k = i
    · subst e; simp [hb, hk]
    · by_cases hlt : k < i
      · simp [hlt, hk, show k < i + 1 by omega]
      · have hki : k - i ≠ 0 := by omega
        simp [hlt, hk, show ¬ k < i + 1 by omega]
        omega
  · rw [if_neg hb, low_get]
    by_cases e : k = i
    · subst e; simp [hb]
    · have : (k < i + 1) = (k < i) := by simp; omega
      simp [this]

theorem low_eq_zero (i : Nat) (bits : BitVec 32) (hl : low (i + 1) bits = 0#32) : bits.getLsbD i = false := by
  have := congrArg (fun x => BitVec.getLsbD x i) hl
  simp only [low_get] at this
  simpa using this

end Go.Proofs.Ytdinnkacilgmmaa
namespace Go.Proofs.Ytdinnkacilgmmaa
open Go.RowKit

/-! ### bits of 32 -/
theorem wrap_u32_nat (n : Nat) (h : n < 4294967296) : IntKind.u32.wrap (n : Int) = n := by
  rw [IntKind.wrap_u32']; omega
theorem ofInt_bv (x : BitVec 32) : BitVec.ofInt 32 (x.toNat : Int) = x := by
  rw [BitVec.ofInt_natCast]; simp
theorem bits_xor (x y : BitVec 32) : bits .xor .u32 (x.toNat : Int) (y.toNat : Int) = ((x ^^^ y).toNat : Int) := by
  show IntKind.u32.wrap ((BitVec.ofInt 32 (x.toNat : Int) ^^^ BitVec.ofInt 32 (y.toNat : Int)).toNat : Int) = _
  rw [ofInt_bv, ofInt_bv]; exact wrap_u32_nat _ (x ^^^ y).isLt
theorem bits_and (x y : BitVec 32) : bits .and .u32 (x.toNat : Int) (y.toNat : Int) = ((x &&& y).toNat : Int) := by
  show IntKind.u32.wrap ((BitVec.ofInt 32 (x.toNat : Int) &&& BitVec.ofInt 32 (y.toNat : Int)).toNat : Int) = _
  rw [ofInt_bv, ofInt_bv]; exact wrap_u32_nat _ (x &&& y).isLt

theorem bit0_and (x : BitVec 32) : x &&& 1#32 = if x.getLsbD 0 then 1#32 else 0#32 := by
  apply BitVec.eq_of_getLsbD_eq; intro i hi
  rw [BitVec.getLsbD_and, BitVec.getLsbD_one]
  by_cases e : i = 0
  · subst e
    cases x.getLsbD 0 <;> simp
  · cases x.getLsbD 0 <;> simp [e]

theorem sh_bits (x : BitVec 32) : (bits BinOp.xor IntKind.u32 (↑x.toNat / 2)
    (bits BinOp.and IntKind.u32 2197175160 (-bits BinOp.and IntKind.u32 (↑x.toNat) 1 % 4294967296))) = ((sh x).toNat : Int) := by
  have e1 : bits BinOp.and IntKind.u32 (↑x.toNat) 1 = ((if x.getLsbD 0 then 1 else 0 : Nat) : Int) := by
    rw [show (1 : Int) = (((1#32).toNat : Nat) : Int) from rfl, bits_and, bit0_and]
    by_cases h : x.getLsbD 0 = true
    · rw [if_pos h, if_pos h]; rfl
    · rw [if_neg h, if_neg h]; rfl
  have e2 : (x.toNat : Int) / (2 : Int) = ((x >>> 1).toNat : Int) := by
    rw [BitVec.toNat_ushiftRight, Nat.shiftRight_eq_div_pow, Nat.pow_one]; omega
  rw [e1, e2]
  unfold sh
  by_cases h : x.getLsbD 0 = true
  · rw [if_pos h, if_pos h]
    have e3 : bits BinOp.and IntKind.u32 2197175160 (-((1 : Nat) : Int) % 4294967296) = ((0x82f63b78#32).toNat : Int) := by decide
    rw [e3, bits_xor]
  · rw [if_neg h, if_neg h]
    have e3 : bits BinOp.and IntKind.u32 2197175160 (-((0 : Nat) : Int) % 4294967296) = ((0#32).toNat : Int) := by decide
    rw [e3, bits_xor]

theorem shifted_any (x : BitVec 32) (w : World) :
    Calls Try.prog 84 #[.int .u32 x.toNat] w fun e w' => e = .returned (.int .u32 (sh x).toNat) ∧ w = w' := by
  have hs := Lib.hid (sh_bits x)
  go_enter Try.func84, Try.ntmps84
  go_wp2
  go_ret
  refine ⟨ret_val ?_, rfl⟩
  show Value.int IntKind.u32 _ = _
  rw [hs.out]

theorem ext_toNat (c : UInt8) : (ext c).toNat = c.toNat := by
  unfold ext
  rw [BitVec.toNat_setWidth]
  have := c.toNat_lt
  show c.toNat % _ = _
  omega

theorem bits_not (x : BitVec 32) : bits .xor .u32 IntKind.u32.max (x.toNat : Int) = ((~~~ x).toNat : Int) := by
  show IntKind.u32.wrap ((BitVec.ofInt 32 (4294967295 : Int) ^^^ BitVec.ofInt 32 (x.toNat : Int)).toNat : Int) = _
  rw [ofInt_bv, show BitVec.ofInt 32 (4294967295 : Int) = BitVec.allOnes 32 from by decide, BitVec.allOnes_xor]
  exact wrap_u32_nat _ (~~~ x).isLt

theorem bits_ext (r : BitVec 32) (c : UInt8) : bits .xor .u32 (r.toNat : Int) (c.toNat : Int) = ((r ^^^ ext c).toNat : Int) := by
  rw [← ext_toNat, bits_xor]

theorem reg_snoc (r : BitVec 32) (l : List UInt8) (k : Nat) (h : k < l.length) : reg r (l.take (k + 1)) = shn 8 (reg r (l.take k) ^^^ ext l[k]) := by
  rw [List.take_succ_eq_append_getElem h, reg_append]; rfl

theorem shn_succ' (k : Nat) (r : BitVec 32) : shn (k + 1) r = sh (shn k r) := by
  rw [shn_add]; rfl

set_option maxHeartbeats 400000 in
theorem more_any (s : BitVec 32) (a : Option Addr) (l : List UInt8) (cap : Nat) (w : World) (hm : l.length ≤ 281474976710656) (hb : BytesAt w a l) :
    Calls Try.prog 30 #[.int .u32 s.toNat, .slice a l.length cap] w fun e w' => e = .returned (.int .u32 (more s l).toNat) ∧ w = w' := by
  have hsg : IntKind.u32.signed = false := rfl
  have HN := Lib.hid (bits_not s)
  go_enter Try.func30, Try.ntmps30
  go_wp2
  go_loop [5, 12] (fun r i => ∃ k : Nat, k ≤ l.length ∧ i = .int .i64 k ∧ r = .int .u32 (reg (~~~ s) (l.take k)).toNat) (fun _ i => l.length - (intOf i).toNat)
  case atStart => exact ⟨0, Nat.zero_le _, rfl, by rw [HN.out]; rfl⟩
  case round =>
    obtain ⟨k, hk, rfl, rfl⟩ := hrel
    by_cases hlt : k < l.length
    · obtain ⟨b, off, rfl, hc⟩ := hb (by intro e; rw [e] at hlt; simp at hlt)
      have hck := hc k hlt
      have HR := Lib.hid (reg_snoc (~~~ s) l k hlt)
      generalize hr : reg (~~~ s) (l.take k) = r at *
      generalize hcc : l[k] = c at *
      clear hc hb hr hcc
      have HX := Lib.hid (bits_ext r c)
      have hc1 := c.toNat_lt
      go_wp2
      go_loop [5, 20] (fun r' i => ∃ j : Nat, j ≤ 8 ∧ i = .int .i64 j ∧ r' = .int .u32 (shn j (r ^^^ ext c)).toNat) (fun _ i => 8 - (intOf i).toNat)
      case atStart => exact ⟨0, by omega, rfl, by rw [HX.out]; rfl⟩
      case round =>
        obtain ⟨j, hj, rfl, rfl⟩ := hrel
        by_cases hlt8 : j < 8
        · go_wp2_with (go_at_call 84; refine (shifted_any _ _).mono ?_; rintro e w' ⟨rfl, rfl⟩)
          go_round
          case rel => exact ⟨j + 1, by omega, by go_num, by rw [shn_succ']⟩
          case measure => simp [intOf]; omega
        · obtain rfl : j = 8 := by omega
          go_wp2
          go_round
          case rel => exact ⟨k + 1, by omega, by go_num, by rw [HR.out]⟩
          case measure => simp [intOf]; omega
    · obtain rfl : k = l.length := by omega
      rw [List.take_length]
      have HM := Lib.hid (bits_not (reg (~~~ s) l))
      go_wp2
      go_ret
      exact ⟨ret_val (by show Value.int IntKind.u32 _ = _; rw [HM.out]; rfl), rfl⟩

theorem sum_any (a : Option Addr) (l : List UInt8) (cap : Nat) (w : World) (hm : l.length ≤ 281474976710656) (hb : BytesAt w a l) :
    Calls Try.prog 27 #[.slice a l.length cap] w fun e w' => e = .returned (.int .u32 (crc l).toNat) ∧ w = w' := by
  have h0 := fun w => more_any 0#32 a l cap w hm
  have H := Lib.hid h0
  clear h0
  go_enter Try.func27, Try.ntmps27
  go_wp2_with (go_at_call 30; refine (H.out _ hb).mono ?_; rintro e w' ⟨rfl, rfl⟩)
  go_ret
  exact ⟨rfl, rfl⟩

theorem sum_n (a : Option Addr) (l : List UInt8) (n cap : Nat) (w : World) (hn : l.length = n) (hm : l.length ≤ 281474976710656) (hb : BytesAt w a l) :
    Calls Try.prog 27 #[.slice a n cap] w fun e w' => e = .returned (.int .u32 (crc l).toNat) ∧ w = w' := by
  subst hn; exact sum_any a l cap w hm hb

end Go.Proofs.Ytdinnkacilgmmaa
namespace Go.Proofs.Ytdinnkacilgmmaa

/-- the unit: the zeroth power -/
def e0 : BitVec 32 := 0x80000000#32

/-- eight times a power of two, of x -/
def pw (m : Nat) : BitVec 32 := shn (8 * 2 ^ m) e0

/-- joining: the state of the loop behind some powers -/
def jAt (l : List Nat) : Nat := l.foldl max 0
def jA (a : BitVec 32) (l : List Nat) : BitVec 32 := (l.foldl (fun s x => (max s.1 x, shn (8 * 2 ^ max s.1 x) s.2)) (0, a)).2

end Go.Proofs.Ytdinnkacilgmmaa
namespace Go.Proofs.Ytdinnkacilgmmaa
open Go.RowKit

/-! ### the iterator -/

attribute [local go_sem] Oper.semAt_some

/-- the box keeps what it holds -/
def KeepsAt (B : Nat) (W W' : World) : Prop := W'.cell? ⟨B, 0, none⟩ = W.cell? ⟨B, 0, none⟩

end Go.Proofs.Ytdinnkacilgmmaa
namespace Go.Proofs.Ytdinnkacilgmmaa
open Go.RowKit

attribute [local go_sem] Oper.semAt_some

/-- behind some powers: what the boxes hold -/
structure JI (w : World) (a : BitVec 32) (N : Nat) (pre : List (Fin 64)) (W : World) : Prop where
  c0 : W.heap[w.heap.size]? = some (.cells #[.int .u32 (jA a (pre.map (·.val))).toNat] 23 (0, 0))
  c1 : W.heap[w.heap.size + 1]? = some (.cells #[.int .i64 (jAt (pre.map (·.val)))] 3 (0, 0))
  c2 : W.heap[w.heap.size + 1 + 1]? = some (.cells #[.int .u32 (pw (jAt (pre.map (·.val)))).toNat] 23 (0, 0))
  c3 : W.heap[w.heap.size + 1 + 1 + 1]? = some (.cells #[.int .i64 (N : Int)] 2 (0, 0))
  bel : Below w.heap.size w W

theorem JI.own (w : World) (a : BitVec 32) (N : Nat) : OwnFrom (w.heap.size + 4) (JI w a N) := fun s W W' row h hg hr => by
  have key : ∀ {k : Nat} {o : Obj}, k < w.heap.size + 4 → W.heap[k]? = some o → W'.heap[k]? = some o := fun {k o} hk ho =>
    (hg.block k (lt_of_block ho) (fun e => by have := (hr k e.symm).1; omega)).trans ho
  exact ⟨key (by omega) h.c0, key (by omega) h.c1, key (by omega) h.c2, key (by omega) h.c3, h.bel.grown hg h.bel.size (fun k e => by have := (hr k e).1; omega)⟩

/-- stopped: nothing is left of the first sum -/
structure JX (w : World) (a : BitVec 32) (N : Nat) (c : Code) (pre : List (Fin 64)) (W : World) : Prop where
  zero : c = .exit 0 ∧ jA a ((pre.dropLast).map (·.val)) = 0#32
  c0 : W.heap[w.heap.size]? = some (.cells #[.int .u32 ((0#32 : BitVec 32).toNat : Int)] 23 (0, 0))
  bel : Below w.heap.size w W

theorem JX.own (w : World) (a : BitVec 32) (N : Nat) (c : Code) : OwnFrom (w.heap.size + 4) (JX w a N c) := fun s W W' row h hg hr => by
  have key : ∀ {k : Nat} {o : Obj}, k < w.heap.size + 4 → W.heap[k]? = some o → W'.heap[k]? = some o := fun {k o} hk ho =>
    (hg.block k (lt_of_block ho) (fun e => by have := (hr k e.symm).1; omega)).trans ho
  exact ⟨h.zero, key (by omega) h.c0, h.bel.grown hg h.bel.size (fun k e => by have := (hr k e).1; omega)⟩

/-- within a round: the power is being raised -/
structure JR (w : World) (y : BitVec 32) (N m : Nat) (W wr : World) : Prop where
  c0 : Boxed wr w.heap.size 23 (.int .u32 y.toNat)
  c1 : Boxed wr (w.heap.size + 1) 3 (.int .i64 (m : Int))
  c2 : Boxed wr (w.heap.size + 1 + 1) 23 (.int .u32 (pw m).toNat)
  c3 : Boxed wr (w.heap.size + 1 + 1 + 1) 2 (.int .i64 (N : Int))
  oth : KeepsOthers W wr
  kept : KeepsAt (w.heap.size + 1 + 1 + 1) W wr
  bel : Below w.heap.size w wr

theorem boxed_other {W : World} {B : Nat} {t : TypeId} {v : Value} (h : Boxed W B t v) (B' : Nat) (x : Value) (hne : B ≠ B') : Boxed (W.setCell ⟨B', 0, none⟩ x) B t v :=
  (Below.heap_setCell W ⟨B', 0, none⟩ x B hne).trans h

theorem JR.turn {w : World} {y : BitVec 32} {N m : Nat} {W wr : World} (h : JR w y N m W wr) (z : BitVec 32) :
    JR w z N m W (wr.setCell ⟨w.heap.size, 0, none⟩ (.int .u32 z.toNat)) := by
  have c3 := boxed_other h.c3 w.heap.size (.int .u32 z.toNat) (by omega)
  exact ⟨Boxed.set _ h.c0, boxed_other h.c1 _ _ (by omega), boxed_other h.c2 _ _ (by omega), c3,
    h.oth.trans (KeepsOthers.setCell _ _ _), (c3.cell.trans h.c3.cell.symm).trans h.kept, h.bel.setCell (Nat.le_refl _) _⟩

end Go.Proofs.Ytdinnkacilgmmaa
namespace Go.Proofs.Ytdinnkacilgmmaa
open Go.RowKit

theorem _root_.Go.RowKit.Below.next {B : Nat} {a b c : World} (h : Below B a b) (hB : B ≤ a.heap.size) (k : Below b.heap.size b c) : Below B a c :=
  h.trans (k.mono (Nat.le_trans hB h.size))

end Go.Proofs.Ytdinnkacilgmmaa
namespace Go.Proofs.Ytdinnkacilgmmaa
open Go.RowKit

/-- the bytes with the first i bits turned -/
def flips (a : List UInt8) (p : Nat) (bits : BitVec 32) : Nat → List UInt8
  | 0 => a
  | i + 1 => if p + i < 8 * a.length ∧ bits.getLsbD i = true then
      (flips a p bits i).set ((p + i) / 8) ((flips a p bits i).getD ((p + i) / 8) 0 ^^^ (1 <<< UInt8.ofNat ((p + i) % 8)))
    else flips a p bits i

theorem flips_length (a : List UInt8) (p : Nat) (bits : BitVec 32) (i : Nat) : (flips a p bits i).length = a.length := by
  induction i with
  | zero => rfl
  | succ i ih => simp only [flips]; split <;> simp [ih]

theorem flips_reg (a : List UInt8) (p : Nat) (bits : BitVec 32) (hp : p < 8 * a.length) (r : BitVec 32) (i : Nat) (hi : i ≤ 32) (hpi : p + i ≤ 8 * a.length) :
    reg r (flips a p bits i) = reg r a ^^^ shn (8 * a.length - p) (low i bits) := by
  induction i with
  | zero => simp [flips, low_zero, shn_zero]
  | succ i ih =>
    have ih := ih (by omega) (by omega)
    rw [low_succ i (by omega)]
    simp only [flips]
    by_cases hb : bits.getLsbD i = true
    · rw [if_pos ⟨by omega, hb⟩, if_pos hb]
      have hj : (p + i) / 8 < (flips a p bits i).length := by rw [flips_length]; omega
      have e := reg_flip r (flips a p bits i) ((p + i) / 8) ((p + i) % 8) hj (by omega)
      rw [List.getD_eq_getElem?_getD, List.getElem?_eq_getElem hj, Option.getD_some, e, ih, shn_xor, ← BitVec.xor_assoc, flips_length]
      congr 1
      rw [show 8 * a.length - (8 * ((p + i) / 8) + (p + i) % 8) = 8 * a.length - p - i by omega]
      rw [show shn (8 * a.length - p) (1#32 <<< i) = shn (i + (8 * a.length - p - i)) (1#32 <<< i) by rw [show i + (8 * a.length - p - i) = 8 * a.length - p by omega], shn_add, shn_pow i (by omega)]
    · rw [if_neg (by simp [hb]), if_neg hb, ih]

/-- a bit has been turned -/
def anyB (len p : Nat) (bits : BitVec 32) : Nat → Bool
  | 0 => false
  | i + 1 => anyB len p bits i || (decide (p + i < 8 * len) && bits.getLsbD i)

theorem anyB_low (len p : Nat) (bits : BitVec 32) (i : Nat) (hi : i ≤ 32) (h : p + i ≤ 8 * len) : anyB len p bits i = !(low i bits == 0#32) := by
  induction i with
  | zero => simp [anyB, low_zero]
  | succ i ih =>
    simp only [anyB]
    rw [ih (by omega) (by omega), low_succ i (by omega)]
    have hlt : p + i < 8 * len := by omega
    by_cases hb : bits.getLsbD i = true
    · rw [if_pos hb, hb]
      simp only [hlt, decide_true, Bool.and_true, Bool.or_true]
      have : low i bits ^^^ (1#32 <<< i) ≠ 0#32 := by
        intro e
        have := low_eq_zero i bits (by rw [low_succ i (by omega), if_pos hb, e])
        rw [hb] at this; cases this
      simp [this]
    · rw [if_neg hb]; simp [hb]

/-- turned bits are told -/
theorem tells (a : List UInt8) (p : Nat) (bits : BitVec 32) (hp : p < 8 * a.length) (i : Nat) (hi : i ≤ 32) (hpi : p + i ≤ 8 * a.length) :
    (crc a != crc (flips a p bits i)) = anyB a.length p bits i := by
  rw [anyB_low _ _ _ _ hi hpi]
  unfold crc more
  rw [flips_reg a p bits hp _ i hi hpi]
  by_cases h : low i bits = 0#32
  · rw [h, shn_zero]; simp
  · have hne : shn (8 * a.length - p) (low i bits) ≠ 0#32 := fun e => h (shn_inj0 _ _ e)
    have : ~~~ reg (~~~ 0#32) a ≠ ~~~ (reg (~~~ 0#32) a ^^^ shn (8 * a.length - p) (low i bits)) := by
      intro e
      apply hne
      have e2 := congrArg (fun x => ~~~ x) e
      simp only [BitVec.not_not] at e2
      have e3 := congrArg (fun x => reg (~~~ 0#32) a ^^^ x) e2
      simp only [BitVec.xor_self, ← BitVec.xor_assoc, BitVec.zero_xor] at e3
      exact e3.symm
    have h1 : (low i bits == 0#32) = false := by simpa using h
    rw [h1]
    simpa using this

theorem OwnB.cellAt {w : World} {B g n cap : Nat} {l : List UInt8} (h : OwnB w B (.slice (some ⟨g, 0, none⟩) n cap) l) (j : Nat) (hj : j < l.length) :
    w.cell? ⟨g, j, none⟩ = some (byteV l[j]) ∧ w.frozen? ⟨g, j, none⟩ = false := by
  have hn : n = l.length := by
    obtain ⟨a, cap', e, _⟩ := h.shape
    cases e; rfl
  subst hn
  refine ⟨?_, World.ownsRow.frozenAt h j⟩
  rw [World.ownsRow.cellAt h j (by omega), List.getElem?_map, List.getElem?_eq_getElem hj]; rfl

theorem OwnB.bytes {w : World} {B n cap : Nat} {a : Option Addr} {l : List UInt8} (h : OwnB w B (.slice a n cap) l) : l.length = n ∧ BytesAt w a l := by
  obtain ⟨a', cap', e, _, _, h1⟩ := h.shape
  cases e
  exact ⟨rfl, h1⟩

end Go.Proofs.Ytdinnkacilgmmaa
