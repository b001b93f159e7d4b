/- The pager: the model, there, own, slot. -/
import Derived.Test.YtdinnkacilgmmaaPag2
namespace Go.Proofs.Ytdinnkacilgmmaa
open Go.RowKit

/-- what is safe -/
structure Rt where
  gen : Nat
  page : Int
  next : Nat
  mt : List UInt8
def Rt.none : Rt := ⟨0, -1, 1, []⟩
/-- a root in the range that a slot bears -/
structure Rt.ok (R : Rt) : Prop where
  gen : R.gen < 4611686018427387904
  page : -1 ≤ R.page ∧ R.page ≤ 4096
  next : R.next < 4611686018427387904
  mt : R.mt.length ≤ 100
def rootV (R : Rt) (vm : Value) : Value := .agg #[.int .i64 (R.gen : Int), .int .i64 R.page, .int .i64 (R.next : Int), vm]
def slotPre (R : Rt) : List UInt8 := le 8 R.gen ++ le 4 (R.page + 1).toNat ++ le 8 R.next ++ [UInt8.ofNat R.mt.length]
def slotB (R : Rt) : List UInt8 := seal_ (slotPre R ++ R.mt)
theorem slotPre_length (R : Rt) : (slotPre R).length = 21 := by simp [slotPre, le_length]
theorem slotB_length (R : Rt) (h : R.ok) : (slotB R).length = 256 := seal_length _ (by rw [List.length_append, slotPre_length]; have := h.mt; omega)

structure Pgr where
  frm : Nat
  pages : Nat
  is_ : List UInt8
  root : Rt
  dead : Bool
structure Pgr.wf (P : Pgr) (D : Dsk) : Prop where
  len : P.is_.length = 4096
  fit : P.frm + 2 + P.pages ≤ D.N
  top : D.N ≤ 4096
  pos : 1 ≤ P.pages
  root : P.root.ok
def pgCells (p : Nat) (vm : Value) (P : Pgr) : List Value :=
  .pointer (some ⟨p, 0, none⟩) :: .int .i64 (P.frm : Int) :: .int .i64 (P.pages : Int) :: (P.is_.map byteV ++ [.int .i64 (P.root.gen : Int), .int .i64 P.root.page, .int .i64 (P.root.next : Int), vm, .bool P.dead])
/-- a pager in memory -/
structure PgV (w : World) (B q p : Nat) (vm : Value) (P : Pgr) : Prop where
  at_ : w.heap[q]? = some (.cells (pgCells p vm P).toArray 153 (0, 0))
  hq : B ≤ q
  mt : OwnB w B vm P.root.mt
  len : P.is_.length = 4096

theorem pgCells_length {p : Nat} {vm : Value} {P : Pgr} (h : P.is_.length = 4096) : (pgCells p vm P).length = 4104 := by
  simp [pgCells, h]
theorem PgV.head {w : World} {B q p : Nat} {vm : Value} {P : Pgr} (h : PgV w B q p vm P) :
    w.cell? ⟨q, 0, none⟩ = some (.pointer (some ⟨p, 0, none⟩)) ∧ w.cell? ⟨q, 1, none⟩ = some (.int .i64 (P.frm : Int)) ∧ w.cell? ⟨q, 2, none⟩ = some (.int .i64 (P.pages : Int)) := by
  have hc := fun j => cell_of_row w q j _ 153 (0, 0) h.at_
  refine ⟨?_, ?_, ?_⟩
  · rw [hc]; rfl
  · rw [hc]; rfl
  · rw [hc]; rfl
theorem pgCells_is {p : Nat} {vm : Value} {P : Pgr} (h : P.is_.length = 4096) (j : Nat) (hj : j < 4096) : (pgCells p vm P)[3 + j]? = some (byteV (P.is_[j]'(by omega))) := by
  unfold pgCells
  rw [show 3 + j = j + 1 + 1 + 1 by omega]
  simp only [List.getElem?_cons_succ]
  rw [List.getElem?_append_left (by rw [List.length_map]; omega), List.getElem?_map, List.getElem?_eq_getElem (by omega)]
  rfl
theorem pgCells_tail {p : Nat} {vm : Value} {P : Pgr} (h : P.is_.length = 4096) (j : Nat) : (pgCells p vm P)[4099 + j]? = [Value.int .i64 (P.root.gen : Int), .int .i64 P.root.page, .int .i64 (P.root.next : Int), vm, .bool P.dead][j]? := by
  unfold pgCells
  rw [show 4099 + j = (4096 + j) + 1 + 1 + 1 by omega]
  simp only [List.getElem?_cons_succ]
  rw [List.getElem?_append_right (by rw [List.length_map]; omega), List.length_map, h, Nat.add_sub_cancel_left]
theorem PgV.is_cell {w : World} {B q p : Nat} {vm : Value} {P : Pgr} (h : PgV w B q p vm P) (j : Nat) (hj : j < 4096) : w.cell? ⟨q, 3 + j, none⟩ = some (byteV (P.is_[j]'(by have := h.len; omega))) := by
  rw [cell_of_row w q _ _ 153 (0, 0) h.at_, List.getElem?_toArray]
  exact pgCells_is h.len j hj
theorem PgV.tail {w : World} {B q p : Nat} {vm : Value} {P : Pgr} (h : PgV w B q p vm P) :
    w.cell? ⟨q, 4099, none⟩ = some (.int .i64 (P.root.gen : Int)) ∧ w.cell? ⟨q, 4100, none⟩ = some (.int .i64 P.root.page) ∧ w.cell? ⟨q, 4101, none⟩ = some (.int .i64 (P.root.next : Int)) ∧ w.cell? ⟨q, 4102, none⟩ = some vm ∧ w.cell? ⟨q, 4103, none⟩ = some (.bool P.dead) := by
  have hc : ∀ j, w.cell? ⟨q, 4099 + j, none⟩ = [Value.int .i64 (P.root.gen : Int), .int .i64 P.root.page, .int .i64 (P.root.next : Int), vm, .bool P.dead][j]? := fun j => by
    rw [cell_of_row w q _ _ 153 (0, 0) h.at_, List.getElem?_toArray]
    exact pgCells_tail h.len j
  exact ⟨hc 0, hc 1, hc 2, hc 3, hc 4⟩

def Pgr.there (P : Pgr) (n : Int) : Bool := decide (0 ≤ n ∧ n < (P.pages : Int))
set_option maxRecDepth 100000 in
theorem there_any {w : World} {B q p : Nat} {vm : Value} {P : Pgr} (h : PgV w B q p vm P) (n : Int) : Calls Try.prog 107 #[.pointer (some ⟨q, 0, none⟩), .int .i64 n] w fun e w' => e = .returned (.bool (P.there n)) ∧ w = w' := by
  have c2 := h.head.2.2
  obtain ⟨t, ht⟩ : ∃ t, t = P.there n := ⟨_, rfl⟩
  rw [← ht]
  unfold Pgr.there at ht
  have HT := Lib.hid ht
  clear ht
  go_enter Try.func107, Try.ntmps107
  by_cases h0 : 0 ≤ n
  · by_cases h1 : n < (P.pages : Int)
    · go_wp2
      go_ret
      refine ⟨ret_val ?_, rfl⟩
      show Value.bool true = Value.bool t
      rw [HT.out]; simp [h0, h1]
    · go_wp2
      go_ret
      refine ⟨ret_val ?_, rfl⟩
      show Value.bool false = Value.bool t
      rw [HT.out]; simp; omega
  · go_wp2
    go_ret
    refine ⟨ret_val ?_, rfl⟩
    show Value.bool false = Value.bool t
    rw [HT.out]; simp; omega

/-- a root in a variable of its own -/
def RtCell (w : World) (b : Nat) (v : Value) : Prop := ∃ x0 x1 x2 x3, v = .agg #[x0, x1, x2, x3] ∧ w.cell? ⟨b, 0, none⟩ = some x0 ∧ w.cell? ⟨b, 1, none⟩ = some x1 ∧ w.cell? ⟨b, 2, none⟩ = some x2 ∧ w.cell? ⟨b, 3, none⟩ = some x3
theorem RtCell.of {w : World} {b : Nat} {x0 x1 x2 x3 : Value} {t : TypeId} {fz : Nat × Nat} (h : w.heap[b]? = some (.cells #[x0, x1, x2, x3] t fz)) : RtCell w b (.agg #[x0, x1, x2, x3]) :=
  ⟨x0, x1, x2, x3, rfl, cell_of_row w b 0 _ t fz h, cell_of_row w b 1 _ t fz h, cell_of_row w b 2 _ t fz h, cell_of_row w b 3 _ t fz h⟩
theorem results_95 {fn : Func} {p : Tmp} {b : Nat} {v : Value} (h : fn.results = #[.cell p 95]) (tmps : Array Value) (w : World) (hp : tmps.getD p undef = .pointer (some ⟨b, 0, none⟩)) (hc : RtCell w b v) :
    (results fn tmps).run Try.prog w = .ok v w := by
  obtain ⟨x0, x1, x2, x3, rfl, h0, h1, h2, h3⟩ := hc
  simp only [results, h]
  have hp' : tmps[p]?.getD undef = .pointer (some ⟨b, 0, none⟩) := by simpa using hp
  simp [hp', asAddr, go_sem, h0, h1, h2, h3]

theorem set4 {w : World} {b : Nat} {y0 y1 y2 y3 : Value} (h : w.heap[b]? = some (.cells #[y0, y1, y2, y3] 95 (0, 0))) (x0 x1 x2 x3 : Value) :
    ((((w.setCell ⟨b, 0, none⟩ x0).setCell ⟨b, 1, none⟩ x1).setCell ⟨b, 2, none⟩ x2).setCell ⟨b, 3, none⟩ x3).heap[b]? = some (.cells #[x0, x1, x2, x3] 95 (0, 0)) :=
  setCell_block (setCell_block (setCell_block (setCell_block h x0) x1) x2) x3
theorem mod4 {F : Nat → Prop} (w : World) (b : Nat) (hF : F b) (x0 x1 x2 x3 : Value) :
    Mod F w ((((w.setCell ⟨b, 0, none⟩ x0).setCell ⟨b, 1, none⟩ x1).setCell ⟨b, 2, none⟩ x2).setCell ⟨b, 3, none⟩ x3) :=
  (((Mod.setCell w _ _ hF).trans' (Mod.setCell _ _ _ hF)).trans' (Mod.setCell _ _ _ hF)).trans' (Mod.setCell _ _ _ hF)

set_option maxRecDepth 100000 in
theorem own_any {w : World} (R : Rt) (a : Option Addr) (n cap : Nat) (hn : R.mt.length = n) (hm : R.mt.length ≤ 140737488355328) (ha : a = none → R.mt = [] ∧ cap = 0) (hb : BytesAt w a R.mt) (C : Nat) (hC : C ≤ w.heap.size) :
    Calls Try.prog 104 #[rootV R (.slice a n cap)] w fun e w' => ∃ v, e = .returned (rootV R v) ∧ OwnB w' C v R.mt ∧ Mod (fun _ => False) w w' ∧ (∀ k, v.ownBlock = some k → w.heap.size ≤ k) := by
  subst hn
  unfold rootV
  go_enter Try.func104, Try.ntmps104
  go_wp2_with fail
  obtain ⟨W2, hW2⟩ : ∃ W2, W2 = ((w.alloc (.cells #[.int .i64 (R.gen : Int), .int .i64 R.page, .int .i64 (R.next : Int), .slice a R.mt.length cap] 95)).alloc (.cells #[.int .i64 0, .int .i64 0, .int .i64 0, .slice none 0 0] 95)) := ⟨_, rfl⟩
  rw [← hW2]
  have m2 : Mod (fun _ => False) w W2 := by rw [hW2]; exact (Mod.alloc _ _ _).trans' (Mod.alloc _ _ _)
  obtain ⟨b1, hb1⟩ : ∃ b1, b1 = w.heap.size := ⟨_, rfl⟩
  have k1 : W2.heap[b1]? = some (.cells #[.int .i64 (R.gen : Int), .int .i64 R.page, .int .i64 (R.next : Int), .slice a R.mt.length cap] 95 (0, 0)) := by
    rw [hW2, hb1]; exact heap_alloc2_old _ _ _
  have k2 : W2.heap[b1 + 1]? = some (.cells #[.int .i64 0, .int .i64 0, .int .i64 0, .slice none 0 0] 95 (0, 0)) := by
    rw [hW2, hb1]; exact heap_alloc2_new _ _ _
  have s2 : W2.heap.size = b1 + 2 := by rw [hW2, hb1]; simp
  clear hW2
  rw [← hb1]
  have hb2 := hb.mod m2 (fun _ _ _ => id)
  refine (clone_n a R.mt _ cap W2 W2.heap.size rfl (Nat.le_refl _) hm ha hb2).mono ?_
  rintro e w3 ⟨v, rfl, o3, m3, hv⟩
  obtain ⟨a3, c3, rfl, -, hc3, -⟩ := o3.shape
  have k1' := m3.obj k1 id
  have k2' := m3.obj k2 id
  have hvb : (Value.slice a3 R.mt.length c3).ownBlock ≠ some b1 ∧ (Value.slice a3 R.mt.length c3).ownBlock ≠ some (b1 + 1) := ⟨fun e => by have := hv _ e; omega, fun e => by have := hv _ e; omega⟩
  have O3 := Lib.hid o3
  have M3 := Lib.hid (m2.trans' m3)
  have HV := Lib.hid hv
  have HVB := Lib.hid hvb
  have HB1 := Lib.hid hb1
  have HC := Lib.hid hC
  have cc1 := fun j => cell_of_row w3 b1 j _ 95 (0, 0) k1'
  have cc2 := fun j => cell_of_row w3 (b1 + 1) j _ 95 (0, 0) k2'
  have d0 := cc1 0
  have d1 := cc1 1
  have d2 := cc1 2
  have d3 := cc1 3
  have e0 := cc2 0
  have e1 := cc2 1
  have e2 := cc2 2
  have e3 := cc2 3
  have f3 := thaw_of (i := 3) k1'
  have g0 := thaw_of (i := 0) k2'
  have g1 := thaw_of (i := 1) k2'
  have g2 := thaw_of (i := 2) k2'
  have g3 := thaw_of (i := 3) k2'
  simp only [List.getElem?_toArray, List.getElem?_cons_zero, List.getElem?_cons_succ] at d0 d1 d2 d3 e0 e1 e2 e3
  have K1 := Lib.hid k1'
  have K2 := Lib.hid k2'
  clear o3 m3 m2 hv hvb k1 k2 hb2 hb ha hm hb1 hC cc1 cc2 k1' k2'
  go_wp2
  have m4 : Mod (fun k => k = b1) w3 (w3.setCell ⟨b1, 3, none⟩ (.slice a3 R.mt.length c3)) := Mod.setCell _ _ _ rfl
  have k4 := m4.obj K2.out (by omega)
  have k5 := set4 k4 (.int .i64 (R.gen : Int)) (.int .i64 R.page) (.int .i64 (R.next : Int)) (.slice a3 R.mt.length c3)
  have m5 : Mod (fun k => k = b1 ∨ k = b1 + 1) w3 _ := (m4.mono (fun _ _ e => .inl e)).trans' (mod4 _ (b1 + 1) (.inr rfl) (.int .i64 (R.gen : Int)) (.int .i64 R.page) (.int .i64 (R.next : Int)) (.slice a3 R.mt.length c3))
  refine bodyPost_ret (results_95 rfl _ _ rfl (RtCell.of k5)) rfl ⟨_, rfl, (O3.out.mod m5 (fun k hk e => ?_)).weaken ?_, M3.out.trans m5 (fun k hk e => ?_), fun k hk => ?_⟩
  · rcases e with rfl | rfl
    · exact HVB.out.1 hk
    · exact HVB.out.2 hk
  · have := HB1.out; have := HC.out; omega
  · have := HB1.out; omega
  · have := HB1.out; have := HV.out k hk; omega
end Go.Proofs.Ytdinnkacilgmmaa
