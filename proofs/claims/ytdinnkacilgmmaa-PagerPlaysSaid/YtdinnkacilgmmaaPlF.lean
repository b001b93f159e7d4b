/- What RowPagerPlays needs, part 6. -/
import Derived.Test.YtdinnkacilgmmaaPlE
import Derived.RangeFuncWrites
import Derived.BigRegionIn
import Derived.OrdersIn
import Derived.RangeFuncCalls
import Derived.Sort.CutIn
namespace Go.Proofs.Ytdinnkacilgmmaa
open Go.RowKit

def freeAt (P : Pgr) (n : Nat) : Bool := P.is_.getD n 0 == 0
/-- the free pages, rising -/
def Pgr.empties (P : Pgr) : List Nat := (List.range P.pages).filter (freeAt P)
theorem empties_at (P : Pgr) (n : Nat) (hn : n < P.pages) (hf : freeAt P n = true) : P.empties.getD ((List.range n).filter (freeAt P)).length 0 = n ∧ ((List.range n).filter (freeAt P)).length < P.empties.length := by
  have hsp : List.range P.pages = List.range n ++ n :: (List.range (P.pages - n - 1)).map (n + 1 + ·) := by
    rw [show P.pages = n + (1 + (P.pages - n - 1)) by omega, List.range_add, List.range_add]
    simp [List.range_succ, Nat.add_assoc]
  unfold Pgr.empties
  rw [hsp, List.filter_append, List.filter_cons_of_pos hf]
  constructor
  · rw [List.getD_eq_getElem?_getD, List.getElem?_append_right (Nat.le_refl _), Nat.sub_self]; rfl
  · rw [List.length_append, List.length_cons]; omega
theorem empties_lt (P : Pgr) (hp : 1 ≤ P.pages) (k : Nat) : P.empties.getD k 0 < P.pages := by
  rw [List.getD_eq_getElem?_getD]
  cases h : P.empties[k]? with
  | none => exact hp
  | some x =>
    have := List.mem_of_getElem? h
    unfold Pgr.empties at this
    rw [List.mem_filter, List.mem_range] at this
    exact this.1
theorem empties_le (P : Pgr) : P.empties.length ≤ P.pages := by
  have := List.length_filter_le (freeAt P) (List.range P.pages)
  rwa [List.length_range] at this

theorem empty_any (w : World) (q : Nat) : Calls Try.prog 105 #[.pointer (some ⟨q, 0, none⟩)] w fun e w' => e = .returned (.func (.func 129) #[] #[.pointer (some ⟨w.heap.size, 0, none⟩)]) ∧ w' = w.alloc (.cells #[.pointer (some ⟨q, 0, none⟩)] 93) := by
  go_enter Try.func105, Try.ntmps105
  go_wp2
  go_ret
  exact ⟨rfl, rfl⟩

attribute [local go_sem] Oper.semAt_some

def empV (P : Pgr) (k : Nat) : Array Value := #[.int .i64 ((P.empties.getD k 0 : Nat) : Int)]
/-- what its rounds keep: its box, and the pager -/
def KeepsE (B1 q : Nat) (C : Array Value) (W W' : World) : Prop := KeepsAt B1 W W' ∧ (W.heap[q]? = some (.cells C 153 (0, 0)) → W'.heap[q]? = some (.cells C 153 (0, 0)))

set_option maxRecDepth 100000 in
set_option maxHeartbeats 2000000 in
theorem empty_in (F : Fence) (n : Nat) (hf : F.fn 129) (hro : F.round = none) (hn : 1 ≤ n) (l B1 q p : Nat) (vm : Value) (P : Pgr) (hlen : P.is_.length = 4096) (hpg : P.pages ≤ 4096) (J Jx : List Nat → World → Prop)
    (hY : ∀ pre x W, J pre W → pre.length < P.empties.length → YieldAt F (n - 1) Try.prog l (empV P x) W fun e W' =>
      (e = .returned (.bool true) ∧ J (pre ++ [x]) W' ∧ KeepsE B1 q (pgCells p vm P).toArray W W') ∨ (e = .returned (.bool false) ∧ Jx (pre ++ [x]) W'))
    (W : World) (hB1 : W.cell? ⟨B1, 0, none⟩ = some (.pointer (some ⟨q, 0, none⟩))) (hb : W.heap[q]? = some (.cells (pgCells p vm P).toArray 153 (0, 0))) (h0 : J [] W) :
    CallsIn F n Try.prog 129 #[.func (.yield l) #[] #[], .pointer (some ⟨B1, 0, none⟩)] W fun e W' => (∃ v, e = .returned v) ∧
      ((∃ ys, ys = List.range P.empties.length ∧ J ys W') ∨ (∃ pre, (∃ k, k ≤ P.empties.length ∧ pre = List.range k) ∧ Jx pre W')) := by
  have hcell : ∀ (W : World), W.heap[q]? = some (.cells (pgCells p vm P).toArray 153 (0, 0)) → W.cell? ⟨q, 2, none⟩ = some (.int .i64 (P.pages : Int)) ∧ ∀ j, j < 4096 → W.cell? ⟨q, 3 + j, none⟩ = some (byteV (P.is_.getD j 0))   := fun W h => by
    have hc := fun j => cell_of_row W q j _ 153 (0, 0) h
    refine ⟨by rw [hc]; rfl, fun j hj => ?_⟩
    rw [hc, List.getElem?_toArray, pgCells_is hlen j hj, List.getD_eq_getElem?_getD, List.getElem?_eq_getElem (show j < P.is_.length by omega)]
    rfl
  have HCELL := Lib.hid hcell
  have c2 := (hcell W hb).1
  clear hcell
  refine callsIn_of_wp Try.func129 rfl hf ?_ hro
  simp only [Try.ntmps129, List.size_toArray, List.length_cons, List.length_nil, Nat.reduceAdd, Nat.reduceSub, Array.replicate_succ, Array.replicate_zero, List.push_toArray, List.append_toArray, List.nil_append, List.cons_append]
  gi_wp2
  have H0 := Lib.hid h0
  have HBW := Lib.hid hb
  clear c2 h0 hb
  gi_loopw [8] (fun i wr => ∃ k : Nat, k ≤ P.pages ∧ i = .int .i64 (k : Int) ∧ J (List.range ((List.range k).filter (freeAt P)).length) wr ∧ wr.cell? ⟨B1, 0, none⟩ = some (.pointer (some ⟨q, 0, none⟩)) ∧ Hid (wr.heap[q]? = some (.cells (pgCells p vm P).toArray 153 (0, 0))))
    (fun i _ => P.pages - (intOf i).toNat)
  case atStart => exact ⟨0, Nat.zero_le _, rfl, H0.out, hB1, HBW⟩
  case round =>
    obtain ⟨k, hk, rfl, hJs, hc1, hbk⟩ := hrel
    by_cases hlt : k < P.pages
    · have hlt' : (k : Int) < (P.pages : Int) := by omega
      have hk0 : (0 : Int) ≤ (k : Int) := by omega
      have hk4 : (k : Int) < 4096 := by omega
      have hck := (HCELL.out wr hbk.out).2 k (by omega)
      obtain ⟨hg1, hg2⟩ : (freeAt P k = true → P.empties.getD ((List.range k).filter (freeAt P)).length 0 = k) ∧ (freeAt P k = true → ((List.range k).filter (freeAt P)).length < P.empties.length) := ⟨fun h => (empties_at P k hlt h).1, fun h => (empties_at P k hlt h).2⟩
      have hrs : ((List.range (k + 1)).filter (freeAt P)).length = ((List.range k).filter (freeAt P)).length + (if freeAt P k = true then 1 else 0) := by
        rw [List.range_succ, List.filter_append, List.length_append]
        congr 1
        by_cases h : freeAt P k = true
        · rw [if_pos h, List.filter_cons_of_pos h]; rfl
        · rw [if_neg h, List.filter_cons_of_neg h]; rfl
      have hfd : freeAt P k = (P.is_.getD k 0 == 0) := rfl
      have HRS := Lib.hid hrs
      have HFD := Lib.hid hfd
      have HG1 := Lib.hid hg1
      have HG2 := Lib.hid hg2
      clear hrs hfd hg1 hg2
      generalize P.is_.getD k 0 = c at *
      generalize ((List.range k).filter (freeAt P)).length = j at *
      unfold byteV at hck
      by_cases hc0 : c = 0
      · have hfr : freeAt P k = true := by rw [HFD.out, hc0]; rfl
        have hYk := hY (List.range j) j wr hJs (by rw [List.length_range]; exact HG2.out hfr)
        unfold empV at hYk
        rw [HG1.out hfr] at hYk
        obtain ⟨fn, tmps, assign, body, hy, hR⟩ := hYk
        have HRG : Hid (List.range (j + 1) = List.range j ++ [j]) := List.range_succ
        have hcz : ((c.toNat : Int) == 0) = true := by rw [hc0]; rfl
        have HC1 := Lib.hid hc1
        have HFR := Lib.hid hfr
        have HJ := Lib.hid (show j + 1 ≤ P.empties.length from HG2.out hfr)
        clear hc0 hfr
        gi_wp2
        refine hR.mono ?_
        rintro e W3 (⟨rfl, hJ3, hk3, hk4⟩ | ⟨rfl, hJx3⟩)
        · have hB3 : W3.cell? ⟨B1, 0, none⟩ = some (.pointer (some ⟨q, 0, none⟩)) := hk3.trans HC1.out
          have hB4 := Lib.hid (hk4 hbk.out)
          have hrj := HRS.out
          rw [HFR.out] at hrj
          have HRJ : Hid (((List.range (k + 1)).filter (freeAt P)).length = j + 1) := hrj
          clear hk3 hk4 hrj hbk HC1 hc1 hck hB1
          gi_wp2
          go_roundw
          case rel => exact ⟨k + 1, by omega, by go_num, by rw [HRJ.out, HRG.out]; exact hJ3, hB3, hB4⟩
          case measure => simp [intOf]; omega
        · gi_wp2
          refine bodyPost_ret (results_none rfl _ _ _) rfl ?_
          exact ⟨⟨_, rfl⟩, .inr ⟨_, ⟨j + 1, HJ.out, HRG.out.symm⟩, hJx3⟩⟩
      · have hfr : freeAt P k = false := by
          rw [HFD.out]
          exact beq_eq_false_iff_ne.2 hc0
        have hcz : ((c.toNat : Int) == 0) = false := by
          rw [beq_eq_false_iff_ne]
          intro e
          exact hc0 (UInt8.toNat_inj.1 (by show c.toNat = 0; omega))
        have hrj := HRS.out
        rw [hfr] at hrj
        have HRJ : Hid (((List.range (k + 1)).filter (freeAt P)).length = j) := hrj
        clear hc0 hfr hrj
        gi_wp2
        refine ⟨(fun f e => by cases e), ?_⟩
        gi_wp2
        go_roundw
        case rel => exact ⟨k + 1, by omega, by go_num, by rw [HRJ.out]; exact hJs, hc1, hbk⟩
        case measure => simp [intOf]; omega
    · have hke : k = P.pages := by omega
      subst hke
      have hn : ¬ (P.pages : Int) < (P.pages : Int) := by omega
      gi_wp2
      go_end0
      exact ⟨⟨_, rfl⟩, Or.inl hJs⟩

theorem empty_seq (B1 q p : Nat) (vm : Value) (P : Pgr) (hlen : P.is_.length = 4096) (hpg : P.pages ≤ 4096) (w : World) (hB1 : Boxed w B1 93 (.pointer (some ⟨q, 0, none⟩))) (hb : w.heap[q]? = some (.cells (pgCells p vm P).toArray 153 (0, 0))) :
    SeqStopsK Fence.wide 4 Try.prog 129 #[.pointer (some ⟨B1, 0, none⟩)] (empV P) (KeepsE B1 q (pgCells p vm P).toArray) (fun ys => ys = List.range P.empties.length) (fun pre => ∃ k, k ≤ P.empties.length ∧ pre = List.range k) P.empties.length w :=
  fun lp J Jx W hW _ _ hY h0 => empty_in Fence.wide 4 trivial rfl (by decide) lp B1 q p vm P hlen hpg J Jx hY W
    ((hW.cell (p := ⟨B1, 0, none⟩) (lt_of_block hB1)).trans hB1.cell) ((Mod.fresh hW (fun _ => False)).obj hb id) h0

/-- behind some rounds of Free -/
structure FI (w : World) (q : Nat) (C : Array Value) (pre : List Nat) (W : World) : Prop where
  b0 : Boxed W w.heap.size 3 (.int .i64 (pre.length : Int))
  b1 : Boxed W (w.heap.size + 1) 93 (.pointer (some ⟨q, 0, none⟩))
  pg : W.heap[q]? = some (.cells C 153 (0, 0))
  m : Mod (fun _ => False) w W
theorem FI.own {w : World} {q : Nat} {C : Array Value} (hq : q < w.heap.size) : OwnFrom (w.heap.size + 2) (FI w q C) := fun s W W' row h hg hr => by
  have hm : Mod (fun k => some k = row) W W' := Mod.grown hg
  have key : ∀ {k : Nat} {o : Obj}, k < w.heap.size + 2 → W.heap[k]? = some o → W'.heap[k]? = some o := fun {k o} hk ho => hm.obj ho (fun e => by have := (hr k e.symm).1; omega)
  have hm' : Mod (fun _ => False) w W' := h.m.trans hm (fun k hk e => by have := (hr k e.symm).1; omega)
  exact ⟨key (by omega) h.b0, key (by omega) h.b1, key (by omega) h.pg, hm'⟩

set_option maxHeartbeats 1000000 in
set_option maxRecDepth 100000 in
theorem pfree_any {w : World} {B q p : Nat} {vm : Value} {P : Pgr} (hp : PgV w B q p vm P) (hpg : P.pages ≤ 4096) :
    Calls Try.prog 76 #[.pointer (some ⟨q, 0, none⟩)] w fun e w' => e = .returned (.int .i64 (P.empties.length : Int)) ∧ Mod (fun _ => False) w w' := by
  refine callsIn_wide.1 (callsIn_of_wp_marks (F := Fence.wide) (n := 5) Try.func76 rfl trivial (wpIn_wide.2 ?_) rfl)
  simp only [Try.ntmps76, List.size_toArray, List.length_cons, List.length_nil, Nat.reduceAdd, Nat.reduceSub, Array.replicate_succ, Array.replicate_zero, List.push_toArray, List.append_toArray, List.nil_append, List.cons_append]
  have hq := lt_of_block hp.at_
  have hlen := hp.len
  go_wp2_with (go_at_call 105; refine (empty_any _ _).mono ?_; rintro e w' ⟨rfl, rfl⟩)
  obtain ⟨W2, hW2⟩ : ∃ W2, W2 = (w.alloc (Obj.cells #[Value.int IntKind.i64 0] 3)).alloc (Obj.cells #[.pointer (some ⟨q, 0, none⟩)] 93) := ⟨_, rfl⟩
  rw [← hW2]
  have m2 : Mod (fun _ => False) w W2 := by rw [hW2]; exact (Mod.alloc _ _ _).trans' (Mod.alloc _ _ _)
  have z2 : W2.heap.size = w.heap.size + 2 := by rw [hW2]; simp
  obtain ⟨C, hC⟩ : ∃ C, C = (pgCells p vm P).toArray := ⟨_, rfl⟩
  have hat := hp.at_
  have hI0 : FI w q C [] W2 := by
    refine ⟨?_, ?_, by rw [hC]; exact m2.obj hat id, m2⟩
    · unfold Boxed; rw [hW2]; exact heap_alloc2_old _ _ _
    · unfold Boxed; rw [hW2]; exact heap_alloc2_new _ _ _
  clear hW2 hp hat
  have hsq := empty_seq (w.heap.size + 1) q p vm P hlen hpg W2 hI0.b1 (by rw [← hC]; exact hI0.pg)
  rw [← hC] at hsq
  have hle := empties_le P
  have HI0 := Lib.hid hI0
  clear hI0 hC
  refine (wpIn_wide (n := 5)).1 ?_
  refine wpIn_rangeFunc_ownF (F := Fence.wide) (n := 5) rfl (by decide) rfl trivial (fun _ _ => rfl) hsq (fun h k => ⟨k.1.trans h.1, fun hx => k.2 (h.2 hx)⟩) ?hKb (Below.refl _ _) (fun _ => rfl)
    (FI w q C) (fun _ _ _ => False) (by rw [z2]; exact FI.own hq) (fun _ _ _ _ _ h => h.elim) HI0.out ?a1 ?hassign ?hbody ?hdone ?hstop
  case hassign =>
    intro lp x W K hK
    unfold empV
    gi_wp2
    exact hK
  case hKb =>
    intro W lp o o' hlp ho hno _
    refine ⟨World.cell?_of_block (a := ⟨w.heap.size + 1, 0, none⟩) (World.putObj_heap_other (by show w.heap.size + 1 ≠ lp; omega)), fun hx => ?_⟩
    refine ((Mod.grown (grownBy_putObj' W lp o')).mono (fun k _ e => Option.some.inj e) : Mod (fun k => k = lp) W (W.putObj lp o')).obj hx (fun e => ?_)
    subst e
    rw [ho] at hx
    injection hx with hx
    subst hx
    simp [Obj.isCells] at hno
  case hstop => exact fun _ _ _ _ _ _ h => h.elim
  case hbody =>
    intro lp pre x W hI hlen2
    have x0 := hI.b0.cell
    have f0 := hI.b0.frozen
    have hw : IntKind.i64.wrap ((pre.length : Int) + 1) = (pre.length : Int) + 1 := IntWalk.i64_in _ (by omega)
    have hm : Mod (fun k => k = w.heap.size) W (W.setCell ⟨w.heap.size, 0, none⟩ (.int .i64 ((pre.length : Int) + 1))) := Mod.setCell _ _ _ rfl
    have hend : KeepsOthers W (W.setCell ⟨w.heap.size, 0, none⟩ (.int .i64 ((pre.length : Int) + 1))) ∧ KeepsE (w.heap.size + 1) q C W (W.setCell ⟨w.heap.size, 0, none⟩ (.int .i64 ((pre.length : Int) + 1))) ∧ FI w q C (pre ++ [x]) (W.setCell ⟨w.heap.size, 0, none⟩ (.int .i64 ((pre.length : Int) + 1))) := by
      have b1 : Boxed (W.setCell ⟨w.heap.size, 0, none⟩ (.int .i64 ((pre.length : Int) + 1))) (w.heap.size + 1) 93 (.pointer (some ⟨q, 0, none⟩)) := hm.obj hI.b1 (by omega)
      refine ⟨KeepsOthers.setCell _ _ _, ⟨(Boxed.cell b1).trans (Boxed.cell hI.b1).symm, fun hx => hm.obj hx (by omega)⟩, ?_, b1, hm.obj hI.pg (by omega), hI.m.trans hm (fun k hk e => by omega)⟩
      rw [show (((pre ++ [x]).length : Nat) : Int) = (pre.length : Int) + 1 by simp]
      exact Boxed.set _ hI.b0
    have HEND := Lib.hid hend
    clear hend hm hsq
    gi_wp2
    exact HEND.out
  case hdone =>
    intro D0 xs W hD0 hxs hI hdef
    have x0 := hI.b0.cell
    rw [show xs.length = P.empties.length by rw [hxs, List.length_range]] at x0
    have hm := hI.m
    clear hI HI0 hsq
    go_wp2
    refine ⟨by simp, .inl ⟨_, _, rfl, run_takeDeferred hdef, ?_⟩⟩
    refine ⟨_, results_tmp rfl _ _ _, rfl, hm.trans ((Mod.grown (grownBy_putObj' W D0 _)).mono (fun k _ e => Option.some.inj e) : Mod (fun k => k = D0) W _) (fun k hk e => by omega)⟩
end Go.Proofs.Ytdinnkacilgmmaa
namespace Go.Proofs.Ytdinnkacilgmmaa
open Go.RowKit

attribute [local go_sem] Oper.semAt_some

/-- two boxes keep what they hold -/
def Keeps2 (B1 B2 : Nat) (W W' : World) : Prop := KeepsAt B1 W W' ∧ KeepsAt B2 W W'

end Go.Proofs.Ytdinnkacilgmmaa
namespace Go.Proofs.Ytdinnkacilgmmaa
open Go.RowKit

/-! ### a sector -/
/-! ### records, by what a reader reads -/
/-- the records ls stand from s up to e -/
def Stand (rd : Nat → Option (UInt8 × List UInt8)) : Nat → List (List UInt8) → Nat → Prop
  | s, [], e => s = e
  | s, b :: ls, e => ∃ n, recGo rd s n 0 [] = some (b, n) ∧ Stand rd (s + n) ls e

theorem Stand.le {rd : Nat → Option (UInt8 × List UInt8)} {ls : List (List UInt8)} {s e : Nat} (h : Stand rd s ls e) : s + ls.length ≤ e := by
  induction ls generalizing s with
  | nil => exact Nat.le_of_eq h
  | cons b ls ih =>
    obtain ⟨n, h1, h2⟩ := h
    have := (recGo_bounds _ _ _ _ _ _ _ h1).1
    have := ih h2
    simp only [List.length_cons]
    omega
theorem Stand.append {rd : Nat → Option (UInt8 × List UInt8)} {ls ms : List (List UInt8)} {s e f : Nat} (h : Stand rd s ls e) (k : Stand rd e ms f) : Stand rd s (ls ++ ms) f := by
  induction ls generalizing s with
  | nil => rw [show s = e from h]; exact k
  | cons b ls ih =>
    obtain ⟨n, h1, h2⟩ := h
    exact ⟨n, h1, ih h2⟩
end Go.Proofs.Ytdinnkacilgmmaa
namespace Go.Proofs.Ytdinnkacilgmmaa
open Go.RowKit

/-! ### writes -/
def Dsk.push (D : Dsk) (l : List (Nat × List UInt8)) : Dsk := { D with l := D.l ++ l }
/-! ### what Append does -/
/-- the bytes that are laid, ahead of their cutting -/
def apAll (b : List UInt8) : List UInt8 := le 4 (crc b).toNat ++ b
def apN (b : List UInt8) : Nat := (b.length + 245) / 242
def apPiece (b : List UInt8) (k : Nat) : List UInt8 := ((apAll b).drop (242 * k)).take 242
def apFlag (b : List UInt8) (k : Nat) : UInt8 := (if k = 0 then 1 else 0) ||| (if k + 1 = apN b then 2 else 0)
def apWrites (J : Jr) (b : List UInt8) (pre : List Nat) : List (Nat × List UInt8) := pre.mapIdx fun i x => (J.place (J.next + i), secB (J.next + i) (apFlag b i) (apPiece b x))
def Jr.whyApp (J : Jr) (b : List UInt8) : Int := if J.dead = true then 21 else if 8192 < b.length then 3 else if J.start + J.size < J.next + apN b then 4 else 0
theorem apWrites_snoc (J : Jr) (b : List UInt8) (pre : List Nat) (x : Nat) : apWrites J b (pre ++ [x]) = apWrites J b pre ++ [(J.place (J.next + pre.length), secB (J.next + pre.length) (apFlag b pre.length) (apPiece b x))] := by
  unfold apWrites; rw [List.mapIdx_append]; simp

section
variable {J : Jr} {D : Dsk} {b : List UInt8}

end

/-! ### a journal on a disk that does not fail -/
structure JInv (J : Jr) (D : Dsk) (ls : List (List UInt8)) : Prop where
  wf : D.wf
  fine : D.fine
  live : J.dead = false
  s1 : 1 ≤ J.start
  s2 : J.start ≤ J.next
  s3 : J.next ≤ J.start + J.size
  top : J.start + J.size ≤ 2305843009213693952
  z : 1 ≤ J.size
  fit : J.frm + J.size ≤ D.N
  stand : Stand (J.rd D) J.start ls J.next
  clean : ∀ s, J.next ≤ s → J.rd D s = none

section
variable {J : Jr} {D : Dsk} {ls : List (List UInt8)}

theorem JInv.why (_h : JInv J D ls) (b : List UInt8) (hb : b.length ≤ 8192) : J.whyApp b = if J.start + J.size < J.next + apN b then 4 else 0 := by
  unfold Jr.whyApp
  rw [if_neg (by rw [_h.live]; decide), if_neg (by omega)]
theorem sync_now {D : Dsk} (h : D.fine) : D.sync.now = D.now ∧ D.sync.l = [] ∧ D.sync.safe = D.now ∧ D.sync.fine := by
  unfold Dsk.sync
  rw [if_neg (by rw [h.gone]; decide), if_neg (by rw [h.bad]; decide)]
  exact ⟨rfl, rfl, rfl, ⟨h.bad, h.full, h.gone⟩⟩
theorem JInv.same (h : JInv J D ls) {D' : Dsk} (hw : D'.wf) (hf : D'.fine) (hn : D'.now = D.now) : JInv J D' ls := by
  have hN : D'.N = D.N := by
    unfold Dsk.N
    rw [← hw.now, ← h.wf.now, hn]
  have e : J.rd D' = J.rd D := by funext s; unfold Jr.rd; rw [hn]
  exact ⟨hw, hf, h.live, h.s1, h.s2, h.s3, h.top, h.z, by rw [hN]; exact h.fit, by rw [e]; exact h.stand, by rw [e]; exact h.clean⟩
theorem JInv.sync (h : JInv J D ls) : JInv J D.sync ls := h.same h.wf.sync (sync_now h.fine).2.2.2 (sync_now h.fine).1
end

end Go.Proofs.Ytdinnkacilgmmaa
namespace Go.Proofs.Ytdinnkacilgmmaa
open Go.RowKit

section
variable {P : Program} {ops : Array Oper} {Q : Exit → Act → World → Prop} {md : Region.Mode} {S : World → Prop}

theorem rows_round {l n : Nat} {row : String} {args : Array Value} {w : World} {R : Value → World → Prop} (h : Rows P row args w R) : RowsIn (Fence.wide.inRound l) n P row args w R :=
  fun c cs _ => let ⟨v, w', r, s⟩ := h c cs; ⟨v, w', r, stepsIn_wide.2 s⟩

theorem oper_round {l n : Nat} {o : Oper} {a : Act} {w : World} {K K' : Act → World → Prop} (hd : ∀ c, o.op ≠ .defer c) (hQ : ∀ a w, ¬ Q .outgrown a w) (hK : ∀ a w, K a w → K' a w) (h : o.wp P a w K Q ∨ (o.asks P a w ∧ LetsOut Q)) :
    o.wpIn (Fence.wide.inRound l) n P a w K' Q := by
  have hno : ¬ LetsOut Q := fun ⟨a, w, hq⟩ => hQ a w hq
  rcases h with h | ⟨-, h⟩
  · refine ⟨fun _ _ => trivial, ?_⟩
    rw [Oper.semAt_eq _ _ _ hd]
    unfold Oper.wp at h
    generalize (execOp a.eval o).run P w = r at *
    cases r with
    | ok x w' =>
      cases x <;> simp only [Oper.upon, Oper.uponIn] at h ⊢
      case value v => exact hK _ _ h
      case skip => exact hK _ _ h
      case defer d => exact hK _ _ h
      case enter f args =>
        refine ⟨fun h => (by cases h), CallsIn.inRound l (callsIn_wide.2 (Calls.mono h fun e w'' he => ?_))⟩
        cases e with
        | returned v => exact hK _ _ he
        | panicked c => exact he
        | outgrown => exact (hno he).elim
      case row row args => exact ⟨fun h => (by cases h), rows_round (Rows.mono h fun v w'' he => hK _ _ he)⟩
    | halt x w' => cases x <;> simp only [Oper.upon, Oper.uponIn] at h ⊢; exact h
  · exact (hno h).elim

theorem held_round {l n : Nat} (hd : ∀ (i : Nat) (o : Oper), ops[i]? = some o → ∀ c, o.op ≠ .defer c) (hQ : ∀ a w, ¬ Q .outgrown a w) : ∀ (fuel : Nat) (listed : Array Bool) (a : Act) (w : World), wpAnyH P md ops Q S fuel listed a w → wpAnyIn (Fence.wide.inRound l) n P md ops Q fuel listed a w := by
  intro fuel
  induction fuel with
  | zero => intro listed a w h; exact h
  | succ fuel ih =>
    intro listed a w h
    refine ⟨h.1, fun i hi => ?_⟩
    have h2 := h.2 i hi
    unfold wpOp at h2
    unfold wpOpIn
    cases ho : ops[i]? with
    | none => rw [ho] at h2; exact ih _ _ _ h2.2
    | some o =>
      rw [ho] at h2
      dsimp only at h2 ⊢
      split at h2
      · rename_i hw
        rw [if_pos hw]
        exact oper_round (hd i o ho) hQ (fun a w h => ih _ a w h.2) h2
      · rename_i hw
        rw [if_neg hw]
        exact ⟨fun _ _ => trivial, ih _ _ _ h2.2⟩

def noDefer (o : Oper) : Bool := match o.op with | .defer _ => false | _ => true

theorem wpIn_region_round {l n id : Nat} {a : Act} {w : World} (S : World → Prop) (hm : P.follows .mixedOrders = true) (hd : ops.all noDefer = true) (hQ : ∀ a w, ¬ Q .outgrown a w) (hS : S w.drew)
    (h : S w.drew → wpAnyH P .any ops Q S ops.size (Array.replicate ops.size false) a w.drew) : (Code.region id ops true).wpIn (Fence.wide.inRound l) n P Q a w := by
  refine wpIn_region_any hm (held_round (fun i o ho c hc => ?_) hQ _ _ _ _ (h hS))
  rw [Array.all_eq_true] at hd
  obtain ⟨hi, rfl⟩ := Array.getElem?_eq_some_iff.1 ho
  have := hd i hi
  unfold noDefer at this
  rw [hc] at this
  cases this
end
end Go.Proofs.Ytdinnkacilgmmaa
namespace Go.Proofs.Ytdinnkacilgmmaa
open Go.RowKit

attribute [local go_sem] Oper.semAt_some

theorem DiskAt.cells {w : World} {B p : Nat} {D : Dsk} {F : Nat → Prop} (h : DiskAt w B p D F) : ∀ k, F k → ∃ C t fz, w.heap[k]? = some (.cells C t fz) := by
  obtain ⟨vs, vn, vl, h, rfl⟩ := h
  rintro k (rfl | hk | hk | hk)
  · exact ⟨_, _, _, h.at_⟩
  · obtain ⟨c, hc⟩ := own_type h.safe hk.symm; exact ⟨_, _, _, hc⟩
  · obtain ⟨c, hc⟩ := own_type h.now hk.symm; exact ⟨_, _, _, hc⟩
  · obtain ⟨c, hc⟩ := own_type h.l hk.symm; exact ⟨_, _, _, hc⟩
theorem keeps_of_mod {F : Nat → Prop} {W W' : World} (hm : Mod F W W') (hF : ∀ k, F k → ∃ C t fz, W.heap[k]? = some (.cells C t fz)) : KeepsOthers W W' :=
  ⟨hm.size, fun k o hk ho => hm.obj hk (fun hf => by obtain ⟨C, t, fz, e⟩ := hF k hf; rw [e] at hk; cases hk; cases ho)⟩
/-- behind some pieces -/
structure AI (w : World) (q p B : Nat) (J : Jr) (D : Dsk) (F : Nat → Prop) (b : List UInt8) (n T g6 cap6 : Nat) (pre : List Nat) (W : World) : Prop where
  c0 : Boxed W w.heap.size 76 (.pointer (some ⟨q, 0, none⟩))
  c1 : Boxed W (w.heap.size + 1) 32 (.int .i64 0)
  c2 : Boxed W (w.heap.size + 1 + 1) 2 (.int .i64 (n : Int))
  k0 : Boxed W T 2 (.int .i64 (pre.length : Int))
  k1 : Boxed W (T + 1) 22 (.slice (some ⟨g6, 0, none⟩) (b.length + 4) cap6)
  k2 : Boxed W (T + 1 + 1) 3 (.int .i64 242)
  j : JAt W q p J
  d : ∃ F', DiskAt W B p (D.push (apWrites J b pre)) F' ∧ ∀ k, F' k → F k ∨ T + 3 ≤ k
  o : BytesAt W (some ⟨g6, 0, none⟩) (apAll b)
  m : Mod F w W

theorem AI.own {w : World} {q p B : Nat} {J : Jr} {D : Dsk} {F : Nat → Prop} {b : List UInt8} {n T g6 cap6 : Nat} (hT : w.heap.size + 3 ≤ T) (hg : g6 < T) (hq : q < w.heap.size) : OwnFrom (T + 3) (AI w q p B J D F b n T g6 cap6) := fun s W W' row h hgr hr => by
  have hm : Mod (fun k => some k = row) W W' := Mod.grown hgr
  have key : ∀ {k : Nat} {o : Obj}, k < T + 3 → W.heap[k]? = some o → W'.heap[k]? = some o := fun {k o} hk ho => hm.obj ho (fun e => by have := (hr k e.symm).1; omega)
  obtain ⟨F', h1, h2⟩ := h.d
  refine ⟨key (by omega) h.c0, key (by omega) h.c1, key (by omega) h.c2, key (by omega) h.k0, key (by omega) h.k1, key (by omega) h.k2, key (by omega) h.j, ⟨F', h1.mod hm (fun k hk e => ?_), h2⟩, h.o.mod hm (fun x hx _ e => ?_), h.m.trans hm (fun k hk e => ?_)⟩
  · obtain ⟨-, o, ho, hno⟩ := hr k e.symm
    obtain ⟨C, t, fz, hc⟩ := h1.cells k hk
    rw [hc] at ho; cases ho; cases hno
  · cases hx
    have := (hr _ e.symm).1
    dsimp only at this
    omega
  · have := (hr k e.symm).1
    omega

theorem AI.push {w : World} {q p B : Nat} {J : Jr} {D : Dsk} {F : Nat → Prop} {b : List UInt8} {n T g6 cap6 : Nat} {pre : List Nat} {x : Nat} {W W' : World} {F' : Nat → Prop} (h : AI w q p B J D F b n T g6 cap6 pre W) (hT : w.heap.size + 3 ≤ T) (hg1 : w.heap.size ≤ g6) (hg : g6 < T) (hqF : ¬ F q) (hq : q < w.heap.size) (hF : ∀ k, F k → k < w.heap.size)
    (hsz : T + 3 ≤ W.heap.size) (hd : ∀ k, F' k → F k ∨ T + 3 ≤ k) (hcell : ∀ k, F' k → ∃ C t fz, W.heap[k]? = some (.cells C t fz)) (hm : Mod F' W W') (hd' : ∃ F'', DiskAt W' B p (D.push (apWrites J b pre ++ [(J.place (J.next + pre.length), secB (J.next + pre.length) (apFlag b pre.length) (apPiece b x))])) F'' ∧ ∀ k, F'' k → F' k ∨ W.heap.size ≤ k) :
    AI w q p B J D F b n T g6 cap6 (pre ++ [x]) (W'.setCell ⟨T, 0, none⟩ (.int .i64 ((pre.length + 1 : Nat) : Int))) ∧ KeepsOthers W (W'.setCell ⟨T, 0, none⟩ (.int .i64 ((pre.length + 1 : Nat) : Int))) ∧ Keeps2 (T + 1) (T + 1 + 1) W (W'.setCell ⟨T, 0, none⟩ (.int .i64 ((pre.length + 1 : Nat) : Int))) := by
  have hno : ∀ k, k < T + 3 → (k = q ∨ w.heap.size ≤ k) → ¬ F' k := fun k hk h1 h2 => by
    rcases hd k h2 with e | e
    · rcases h1 with rfl | h1
      · exact hqF e
      · have := hF k e; omega
    · omega
  have hs : Mod (fun k => k = T) W' (W'.setCell ⟨T, 0, none⟩ (.int .i64 ((pre.length + 1 : Nat) : Int))) := Mod.setCell _ _ _ rfl
  have key : ∀ {k : Nat} {o : Obj}, k < T + 3 → (k = q ∨ w.heap.size ≤ k) → k ≠ T → W.heap[k]? = some o → (W'.setCell ⟨T, 0, none⟩ (.int .i64 ((pre.length + 1 : Nat) : Int))).heap[k]? = some o := fun {k o} hk h1 h2 ho =>
    hs.obj (hm.obj ho (hno k hk h1)) h2
  have k1 := key (by omega) (.inr (by omega)) (by omega) h.k1
  have k2 := key (by omega) (.inr (by omega)) (by omega) h.k2
  obtain ⟨F'', e1, e2⟩ := hd'
  have hTW : Boxed W' T 2 (.int .i64 (pre.length : Int)) := hm.obj h.k0 (hno T (by omega) (.inr (by omega)))
  refine ⟨⟨key (by omega) (.inr (by omega)) (by omega) h.c0, key (by omega) (.inr (by omega)) (by omega) h.c1, key (by omega) (.inr (by omega)) (by omega) h.c2, ?_, k1, k2, key (by omega) (.inl rfl) (by omega) h.j, ⟨F'', ?_, fun k hk => ?_⟩, ?_, ?_⟩, ?_, ?_, ?_⟩
  · rw [List.length_append]; exact Boxed.set _ hTW
  · rw [apWrites_snoc]
    refine e1.mod hs (fun k hk e => ?_)
    subst e
    rcases e2 _ hk with e | e
    · exact hno _ (by omega) (.inr (by omega)) e
    · omega
  · rcases e2 k hk with e | e
    · exact hd k e
    · exact .inr (by omega)
  · refine (h.o.mod hm (fun y hy _ => ?_)).mod hs (fun y hy _ e => ?_)
    · cases hy; exact hno _ (by dsimp only; omega) (.inr (by dsimp only; omega))
    · cases hy; dsimp only at e; omega
  · refine (h.m.trans hm (fun k hk e => ?_)).trans hs (fun k hk e => by omega)
    rcases hd k e with e | e
    · exact e
    · omega
  · exact (keeps_of_mod hm hcell).trans (KeepsOthers.setCell _ _ _)
  · exact (Boxed.cell k1).trans (Boxed.cell h.k1).symm
  · exact (Boxed.cell k2).trans (Boxed.cell h.k2).symm

end Go.Proofs.Ytdinnkacilgmmaa
namespace Go.Proofs.Ytdinnkacilgmmaa
open Go.RowKit

section
variable {w0 w : World} {B : Nat} {Ts : List (Thg B)}

theorem Apart.turn2 (h : Apart w0 B Ts w) (i j : Nat) {S T : Thg B} (hi : Ts[i]? = some S) (hj : Ts[j]? = some T) (hij : i ≠ j) :
    ∃ F G, S.at_ w F ∧ T.at_ w G ∧ (∀ k, F k → ¬ G k) ∧ ∀ (S' T' : Thg B) (w' : World) (F' G' : Nat → Prop), Mod (fun k => F k ∨ G k) w w' → S'.at_ w' F' → T'.at_ w' G' → (∀ k, F' k → ¬ G' k) → (∀ k, F' k → F k ∨ w.heap.size ≤ k) → (∀ k, G' k → G k ∨ w.heap.size ≤ k) →
      Apart w0 B ((Ts.set i S').set j T') w' := by
  obtain ⟨Fs, h1, h2⟩ := h.own
  have hil : i < Ts.length := (List.getElem?_eq_some_iff.1 hi).1
  have hjl : j < Ts.length := (List.getElem?_eq_some_iff.1 hj).1
  have hS := h1 i S hi
  have hT := h1 j T hj
  have lt : ∀ n k, n < Ts.length → Fs n k → k < w.heap.size := fun n k hn hk => ((Ts[n]).lt (h1 n _ (List.getElem?_eq_getElem hn)) k hk).2
  refine ⟨Fs i, Fs j, hS, hT, h2 i j hil hjl hij, fun S' T' w' F' G' hm hS' hT' hd hF hG => ⟨h.bel.trans (hm.below (fun k hk => hk.elim (fun e => (S.lt hS k e).1) (fun e => (T.lt hT k e).1)) h.le), Nat.le_trans h.le hm.size, fun n => if n = j then G' else if n = i then F' else Fs n, ?_, ?_⟩⟩
  · intro n U hn
    by_cases ej : n = j
    · subst ej
      simp only [if_true]
      rw [List.getElem?_set_self (by rw [List.length_set]; exact hjl)] at hn
      cases hn
      exact hT'
    · simp only [if_neg ej]
      rw [List.getElem?_set_ne (Ne.symm ej)] at hn
      by_cases ei : n = i
      · subst ei
        simp only [if_true]
        rw [List.getElem?_set_self hil] at hn
        cases hn
        exact hS'
      · simp only [if_neg ei]
        rw [List.getElem?_set_ne (Ne.symm ei)] at hn
        have hnl : n < Ts.length := (List.getElem?_eq_some_iff.1 hn).1
        exact U.mod (h1 n U hn) hm (fun k hk e => e.elim (h2 n i hnl hil ei k hk) (h2 n j hnl hjl ej k hk))
  · intro a b ha hb hab k hk hk'
    rw [List.length_set, List.length_set] at ha hb
    have old : ∀ n, n < Ts.length → n ≠ i → n ≠ j → Fs n k → ¬ F' k ∧ ¬ G' k := fun n hn e1 e2 hk => by
      have := lt n k hn hk
      refine ⟨fun e => ?_, fun e => ?_⟩
      · rcases hF k e with e | e
        · exact h2 n i hn hil e1 k hk e
        · omega
      · rcases hG k e with e | e
        · exact h2 n j hn hjl e2 k hk e
        · omega
    by_cases ea : a = j
    · rw [if_pos ea] at hk
      by_cases eb : b = i
      · rw [if_neg (by omega), if_pos eb] at hk'
        exact hd k hk' hk
      · rw [if_neg (by omega), if_neg eb] at hk'
        exact (old b hb eb (by omega) hk').2 hk
    · rw [if_neg ea] at hk
      by_cases ea2 : a = i
      · rw [if_pos ea2] at hk
        by_cases eb : b = j
        · rw [if_pos eb] at hk'
          exact hd k hk hk'
        · rw [if_neg eb, if_neg (by omega)] at hk'
          exact (old b hb (by omega) eb hk').1 hk
      · rw [if_neg ea2] at hk
        have ho := old a ha ea2 ea hk
        by_cases eb : b = j
        · rw [if_pos eb] at hk'
          exact ho.2 hk'
        · rw [if_neg eb] at hk'
          by_cases eb2 : b = i
          · rw [if_pos eb2] at hk'
            exact ho.1 hk'
          · rw [if_neg eb2] at hk'
            exact h2 a b ha hb hab k hk hk'

/-- one turned, and two new ones beside -/
theorem Apart.turnNew2 (h : Apart w0 B Ts w) (j : Nat) {T : Thg B} (hj : Ts[j]? = some T) :
    ∃ G, T.at_ w G ∧ ∀ (T' U V : Thg B) (w' : World) (G' H K : Nat → Prop), Mod G w w' → T'.at_ w' G' → U.at_ w' H → V.at_ w' K → (∀ k, G' k → G k ∨ w.heap.size ≤ k) → (∀ k, H k → w.heap.size ≤ k) → (∀ k, K k → w.heap.size ≤ k) →
      (∀ k, G' k → ¬ H k ∧ ¬ K k) → (∀ k, H k → ¬ K k) → Apart w0 B (Ts.set j T' ++ [U, V]) w' := by
  obtain ⟨Fs, h1, h2⟩ := h.own
  have hjl : j < Ts.length := (List.getElem?_eq_some_iff.1 hj).1
  have hT := h1 j T hj
  have lt : ∀ n k, n < Ts.length → Fs n k → k < w.heap.size := fun n k hn hk => ((Ts[n]).lt (h1 n _ (List.getElem?_eq_getElem hn)) k hk).2
  refine ⟨Fs j, hT, fun T' U V w' G' H K hm hT' hU hV hG hH hK hd1 hd2 => ⟨h.bel.trans (hm.below (fun k hk => (T.lt hT k hk).1) h.le), Nat.le_trans h.le hm.size, fun n => if n = j then G' else if n < Ts.length then Fs n else if n = Ts.length then H else K, ?_, ?_⟩⟩
  · intro n X hn
    show X.at_ w' (if n = j then G' else if n < Ts.length then Fs n else if n = Ts.length then H else K)
    by_cases hnl : n < Ts.length
    · rw [List.getElem?_append_left (by rw [List.length_set]; exact hnl)] at hn
      by_cases ej : n = j
      · subst ej
        rw [if_pos rfl]
        rw [List.getElem?_set_self hjl] at hn
        cases hn
        exact hT'
      · rw [if_neg ej, if_pos hnl]
        rw [List.getElem?_set_ne (Ne.symm ej)] at hn
        exact X.mod (h1 n X hn) hm (h2 n j hnl hjl ej)
    · rw [if_neg (by omega), if_neg hnl]
      rw [List.getElem?_append_right (by rw [List.length_set]; omega), List.length_set] at hn
      have : n - Ts.length < 2 := by
        have := (List.getElem?_eq_some_iff.1 hn).1
        simpa using this
      by_cases e : n = Ts.length
      · rw [if_pos e]
        rw [e, Nat.sub_self] at hn
        cases hn
        exact hU
      · rw [if_neg e]
        rw [show n - Ts.length = 1 by omega] at hn
        cases hn
        exact hV
  · intro a b ha hb hab k hk hk'
    rw [List.length_append, List.length_set] at ha hb
    simp only [List.length_cons, List.length_nil] at ha hb
    have cls : ∀ n, n < Ts.length + 2 → (if n = j then G' else if n < Ts.length then Fs n else if n = Ts.length then H else K) k → (n = j ∧ G' k) ∨ (n ≠ j ∧ n < Ts.length ∧ Fs n k) ∨ (n = Ts.length ∧ H k) ∨ (n = Ts.length + 1 ∧ K k) := fun n hn hk => by
      by_cases e : n = j
      · rw [if_pos e] at hk; exact .inl ⟨e, hk⟩
      · rw [if_neg e] at hk
        by_cases e2 : n < Ts.length
        · rw [if_pos e2] at hk; exact .inr (.inl ⟨e, e2, hk⟩)
        · rw [if_neg e2] at hk
          by_cases e3 : n = Ts.length
          · rw [if_pos e3] at hk; exact .inr (.inr (.inl ⟨e3, hk⟩))
          · rw [if_neg e3] at hk; exact .inr (.inr (.inr ⟨by omega, hk⟩))
    have oldG : ∀ n, n ≠ j → n < Ts.length → Fs n k → ¬ G' k := fun n h3 h4 h5 h6 => by
      rcases hG k h6 with e | e
      · exact h2 n j h4 hjl h3 k h5 e
      · have := lt n k h4 h5; omega
    have oldN : ∀ n, n < Ts.length → Fs n k → ¬ H k ∧ ¬ K k := fun n h4 h5 => by
      have := lt n k h4 h5
      exact ⟨fun e => by have := hH k e; omega, fun e => by have := hK k e; omega⟩
    rcases cls a ha hk with ⟨e1, h3⟩ | ⟨e1, e2, h3⟩ | ⟨e1, h3⟩ | ⟨e1, h3⟩ <;> rcases cls b hb hk' with ⟨f1, h4⟩ | ⟨f1, f2, h4⟩ | ⟨f1, h4⟩ | ⟨f1, h4⟩
    · omega
    · exact oldG b f1 f2 h4 h3
    · exact (hd1 k h3).1 h4
    · exact (hd1 k h3).2 h4
    · exact oldG a e1 e2 h3 h4
    · exact h2 a b e2 f2 hab k h3 h4
    · exact (oldN a e2 h3).1 h4
    · exact (oldN a e2 h3).2 h4
    · exact (hd1 k h4).1 h3
    · exact (oldN b f2 h4).1 h3
    · omega
    · exact hd2 k h3 h4
    · exact (hd1 k h4).2 h3
    · exact (oldN b f2 h4).2 h3
    · exact hd2 k h4 h3
    · omega
end

theorem OBB.weaken {w : World} {B B' : Nat} {v : Value} {ls : List (List UInt8)} {G : Nat → Prop} (h : OBB w B' v ls G) (hB : B ≤ B') : OBB w B v ls G := by
  obtain ⟨xs, h1, h2, h3, h4⟩ := h
  exact ⟨xs, owns_weaken h1 hB, h2, fun i hi hi2 => (h3 i hi hi2).weaken hB, h4⟩
section
variable {w0 w : World} {B q p : Nat} {Ts : List (Thg B)} {J : Jr} {D : Dsk} {ls : List (List UInt8)}

end
end Go.Proofs.Ytdinnkacilgmmaa
namespace Go.Proofs.Ytdinnkacilgmmaa
open Go.RowKit

def Pgr.writeAt (P : Pgr) (D : Dsk) (b : List UInt8) (e : Nat) : Int × Int × Pgr × Dsk :=
  if D.why ((P.frm + 2 + e : Nat) : Int) (seal_ b) = 0 then ((e : Int), 0, { P with is_ := P.is_.set e 2 }, D.write ((P.frm + 2 + e : Nat) : Int) (seal_ b))
  else (0, D.why ((P.frm + 2 + e : Nat) : Int) (seal_ b), { P with dead := true }, D.write ((P.frm + 2 + e : Nat) : Int) (seal_ b))
def Pgr.write (P : Pgr) (D : Dsk) (b : List UInt8) : Int × Int × Pgr × Dsk :=
  if P.dead = true then (0, 21, P, D) else if 252 < b.length then (0, 3, P, D) else if P.empties.length = 0 then (0, 4, P, D) else P.writeAt D b (P.empties.getD 0 0)

theorem results_cell2 {fn : Func} {p1 p2 : Tmp} {b1 b2 : Nat} {x y : Int} (h : fn.results = #[.cell p1 3, .cell p2 32]) (tmps : Array Value) (w : World) (hp1 : tmps.getD p1 undef = .pointer (some ⟨b1, 0, none⟩)) (hp2 : tmps.getD p2 undef = .pointer (some ⟨b2, 0, none⟩))
    (hc1 : w.cell? ⟨b1, 0, none⟩ = some (.int .i64 x)) (hc2 : w.cell? ⟨b2, 0, none⟩ = some (.int .i64 y)) : (results fn tmps).run Try.prog w = .ok (.tuple #[.int .i64 x, .int .i64 y]) w := by
  simp only [results, h]
  have hp1' : tmps[p1]?.getD undef = .pointer (some ⟨b1, 0, none⟩) := by simpa using hp1
  have hp2' : tmps[p2]?.getD undef = .pointer (some ⟨b2, 0, none⟩) := by simpa using hp2
  simp [hp1', hp2', asAddr, go_sem, hc1, hc2]

/-- ahead of Write's round -/
structure WI (w : World) (B B2 q p : Nat) (vm : Value) (P : Pgr) (D : Dsk) (F : Nat → Prop) (a : Option Addr) (b : List UInt8) (cap : Nat) (W : World) : Prop where
  b0 : Boxed W w.heap.size 93 (.pointer (some ⟨q, 0, none⟩))
  b1 : Boxed W (w.heap.size + 1) 22 (.slice a b.length cap)
  b2 : Boxed W (w.heap.size + 2) 3 (.int .i64 0)
  b3 : Boxed W (w.heap.size + 3) 32 (.int .i64 0)
  b4 : Boxed W (w.heap.size + 4) 93 (.pointer (some ⟨q, 0, none⟩))
  pg : PgV W B q p vm P
  dk : DiskAt W B2 p D F
  by_ : BytesAt W a b
  m : Mod (fun _ => False) w W
/-- behind it -/
structure WX (w : World) (B B2 q p : Nat) (vm : Value) (F : Nat → Prop) (o : Int × Int × Pgr × Dsk) (W : World) : Prop where
  b2 : Boxed W (w.heap.size + 2) 3 (.int .i64 o.1)
  b3 : Boxed W (w.heap.size + 3) 32 (.int .i64 o.2.1)
  pg : PgV W B q p vm o.2.2.1
  dk : ∃ F', DiskAt W B2 p o.2.2.2 F' ∧ ∀ k, F' k → F k ∨ w.heap.size + 5 ≤ k
  m : Mod (fun k => k = q ∨ F k) w W

/-- a row that is not of cells is not the pager's, nor the disk's -/
theorem PgV.grow {W W' : World} {row : Option Nat} {B q p : Nat} {vm : Value} {P : Pgr} (h : PgV W B q p vm P) (hg : W.grownBy W' row) (hr : ∀ r, row = some r → ∃ o : Obj, W.heap[r]? = some o ∧ o.isCells = false) : PgV W' B q p vm P := by
  have hm : Mod (fun k => some k = row) W W' := Mod.grown hg
  have key : ∀ {k : Nat} {C : Array Value} {t : TypeId} {fz : Nat × Nat}, W.heap[k]? = some (.cells C t fz) → ¬ some k = row := fun {k C t fz} hk e => by
    obtain ⟨o, ho, hc⟩ := hr k e.symm
    rw [hk] at ho
    injection ho with ho
    subst ho
    simp [Obj.isCells] at hc
  refine h.mod hm (fun k hk => ?_)
  rcases hk with rfl | hk
  · exact key h.at_
  · rcases h.mt.2 with ⟨rfl, _⟩ | ⟨g', cap, cur, rfl, _, hgg, _⟩
    · simp [Value.ownBlock] at hk
    · simp [Value.ownBlock] at hk
      subst hk
      exact key hgg
theorem DiskAt.grow {W W' : World} {row : Option Nat} {B p : Nat} {D : Dsk} {F : Nat → Prop} (h : DiskAt W B p D F) (hg : W.grownBy W' row) (hr : ∀ r, row = some r → ∃ o : Obj, W.heap[r]? = some o ∧ o.isCells = false) : DiskAt W' B p D F := by
  refine h.mod (Mod.grown hg : Mod (fun k => some k = row) W W') (fun k hk e => ?_)
  obtain ⟨o, ho, hc⟩ := hr k e.symm
  obtain ⟨C, t, fz, hk2⟩ := h.cells k hk
  rw [hk2] at ho
  injection ho with ho
  subst ho
  simp [Obj.isCells] at hc
theorem WI.own {w : World} {B B2 q p : Nat} {vm : Value} {P : Pgr} {D : Dsk} {F : Nat → Prop} {a : Option Addr} {b : List UInt8} {cap : Nat} (hb : BytesAt w a b) :
    OwnFrom (w.heap.size + 5) (fun pre W => pre = ([] : List Nat) ∧ WI w B B2 q p vm P D F a b cap W) := fun s W W' row h hg hr => by
  obtain ⟨h0, h⟩ := h
  have hm : Mod (fun k => some k = row) W W' := Mod.grown hg
  have key : ∀ {k : Nat} {o : Obj}, k < w.heap.size + 5 → W.heap[k]? = some o → W'.heap[k]? = some o := fun {k o} hk ho => hm.obj ho (fun e => by have := (hr k e.symm).1; omega)
  have hm' : Mod (fun _ => False) w W' := h.m.trans hm (fun k hk e => by have := (hr k e.symm).1; omega)
  exact ⟨h0, key (by omega) h.b0, key (by omega) h.b1, key (by omega) h.b2, key (by omega) h.b3, key (by omega) h.b4, h.pg.grow hg (fun r e => (hr r e).2), h.dk.grow hg (fun r e => (hr r e).2), hb.mod hm' (fun _ _ _ => id), hm'⟩
theorem WX.own {w : World} {B B2 q p : Nat} {vm : Value} {F : Nat → Prop} {o : List Nat → Int × Int × Pgr × Dsk} {X : List Nat → Prop} :
    OwnFrom (w.heap.size + 5) (fun pre W => X pre ∧ WX w B B2 q p vm F (o pre) W) := fun s W W' row h hg hr => by
  obtain ⟨h0, h⟩ := h
  have hm : Mod (fun k => some k = row) W W' := Mod.grown hg
  have key : ∀ {k : Nat} {o : Obj}, k < w.heap.size + 5 → W.heap[k]? = some o → W'.heap[k]? = some o := fun {k o} hk ho => hm.obj ho (fun e => by have := (hr k e.symm).1; omega)
  obtain ⟨F', hd, hF⟩ := h.dk
  exact ⟨h0, key (by omega) h.b2, key (by omega) h.b3, h.pg.grow hg (fun r e => (hr r e).2), ⟨F', hd.grow hg (fun r e => (hr r e).2), hF⟩, h.m.trans hm (fun k hk e => by have := (hr k e.symm).1; omega)⟩

theorem wx_fin {w W Wm : World} {B B2 q p : Nat} {vm : Value} {P' : Pgr} {D' : Dsk} {F : Nat → Prop} {x0 y0 x y : Int} (hqw : q < w.heap.size) (hFw : ∀ k, F k → k < w.heap.size) (hmw : ∀ k, vm.ownBlock = some k → k < w.heap.size) (hWs : w.heap.size + 5 ≤ W.heap.size)
    (hmW : Mod (fun _ => False) w W) (hm : Mod (fun k => k = q ∨ F k) W Wm) (hkeep : ∀ k, k = q ∨ F k → ∃ C t fz, W.heap[k]? = some (.cells C t fz)) (hpg : PgV Wm B q p vm P') (hdk : ∃ F', DiskAt Wm B2 p D' F' ∧ ∀ k, F' k → F k ∨ W.heap.size ≤ k)
    (b2W : Boxed W (w.heap.size + 2) 3 (.int .i64 x0)) (b3W : Boxed W (w.heap.size + 3) 32 (.int .i64 y0)) :
    KeepsOthers W ((Wm.setCell ⟨w.heap.size + 2, 0, none⟩ (.int .i64 x)).setCell ⟨w.heap.size + 3, 0, none⟩ (.int .i64 y)) ∧ WX w B B2 q p vm F (x, y, P', D') ((Wm.setCell ⟨w.heap.size + 2, 0, none⟩ (.int .i64 x)).setCell ⟨w.heap.size + 3, 0, none⟩ (.int .i64 y)) := by
  have m23 : Mod (fun k => k = w.heap.size + 2 ∨ k = w.heap.size + 3) Wm ((Wm.setCell ⟨w.heap.size + 2, 0, none⟩ (.int .i64 x)).setCell ⟨w.heap.size + 3, 0, none⟩ (.int .i64 y)) := (Mod.setCell _ _ _ (.inl rfl)).trans' (Mod.setCell _ _ _ (.inr rfl))
  have hb2 : Boxed Wm (w.heap.size + 2) 3 (.int .i64 x0) := hm.obj b2W (fun h => h.elim (fun h => by omega) (fun h => by have := hFw _ h; omega))
  have hb3 : Boxed Wm (w.heap.size + 3) 32 (.int .i64 y0) := hm.obj b3W (fun h => h.elim (fun h => by omega) (fun h => by have := hFw _ h; omega))
  refine ⟨(keeps_of_mod hm hkeep).trans ((KeepsOthers.setCell _ _ _).trans (KeepsOthers.setCell _ _ _)), ?_, ?_, hpg.mod m23 (fun k hk e => ?_), ?_, ((hmW.mono (fun _ _ e => e.elim)).trans' hm).trans m23 (fun k hk e => by omega)⟩
  · exact (Mod.setCell (F := fun k => k = w.heap.size + 3) _ _ _ rfl).obj (Boxed.set _ hb2) (by omega)
  · exact Boxed.set _ ((Mod.setCell (F := fun k => k = w.heap.size + 2) Wm _ _ rfl).obj hb3 (by omega))
  · rcases hk with rfl | hk
    · omega
    · have := hmw k hk.symm; omega
  · obtain ⟨F', h1, h2⟩ := hdk
    refine ⟨F', h1.mod m23 (fun k hk e => ?_), fun k hk => (h2 k hk).imp id (fun e => by omega)⟩
    rcases h2 k hk with h | h
    · have := hFw k h; omega
    · omega

attribute [local go_sem] Oper.semAt_some

/-- what Write leaves -/
def WSaid (w : World) (B B2 q p : Nat) (vm : Value) (F : Nat → Prop) (o : Int × Int × Pgr × Dsk) (e : Ending) (w' : World) : Prop :=
  e = .returned (.tuple #[.int .i64 o.1, .int .i64 o.2.1]) ∧ PgV w' B q p vm o.2.2.1 ∧ (∃ F', DiskAt w' B2 p o.2.2.2 F' ∧ ∀ k, F' k → F k ∨ w.heap.size ≤ k) ∧ Mod (fun k => k = q ∨ F k) w w'

set_option maxHeartbeats 2000000 in
set_option maxRecDepth 100000 in
theorem pwrite_main {w : World} {B B2 q p : Nat} {vm : Value} {P : Pgr} {D : Dsk} {F : Nat → Prop} (hp : PgV w B q p vm P) (hd : DiskAt w B2 p D F) (hwf : P.wf D) (hqF : ¬ F q) (hmF : ∀ k, vm.ownBlock = some k → ¬ F k)
    (a : Option Addr) (b : List UInt8) (n cap : Nat) (hn : b.length = n) (hb : BytesAt w a b) (hlim : D.l.length + 1 ≤ 1048576) (hdd : P.dead = false) (hbl : b.length ≤ 252) :
    Calls Try.prog 66 #[.pointer (some ⟨q, 0, none⟩), .slice a n cap] w fun e w' => WSaid w B B2 q p vm F (if P.empties.length = 0 then (0, 4, P, D) else P.writeAt D b (P.empties.getD 0 0)) e w' := by
  obtain ⟨o, ho⟩ : ∃ o, o = (if P.empties.length = 0 then (0, 4, P, D) else P.writeAt D b (P.empties.getD 0 0)) := ⟨_, rfl⟩
  rw [← ho]
  have HO := Lib.hid ho
  clear ho
  subst hn
  refine callsIn_wide.1 (callsIn_of_wp_marks (F := Fence.wide) (n := 5) Try.func66 rfl trivial (wpIn_wide.2 ?_) rfl)
  simp only [Try.ntmps66, List.size_toArray, List.length_cons, List.length_nil, Nat.reduceAdd, Nat.reduceSub, Array.replicate_succ, Array.replicate_zero, List.push_toArray, List.append_toArray, List.nil_append, List.cons_append]
  obtain ⟨W4, hW4⟩ : ∃ W4, W4 = (((w.alloc (.cells #[.pointer (some ⟨q, 0, none⟩)] 93)).alloc (.cells #[.slice a b.length cap] 22)).alloc (.cells #[.int .i64 0] 3)).alloc (.cells #[.int .i64 0] 32) := ⟨_, rfl⟩
  have m4 : Mod (fun _ => False) w W4 := by rw [hW4]; exact (((Mod.alloc _ _ _).trans' (Mod.alloc _ _ _)).trans' (Mod.alloc _ _ _)).trans' (Mod.alloc _ _ _)
  have c5 := m4.cell' hp.tail.2.2.2.2 id
  have z4 : W4.heap.size = w.heap.size + 4 := by rw [hW4]; simp
  rw [hdd, hW4] at c5
  have hbl' : (b.length : Int) ≤ 252 := by omega
  go_wp2_with (go_at_call 105; refine (empty_any _ _).mono ?_; rintro e w' ⟨rfl, rfl⟩)
  obtain ⟨W5, hW5⟩ : ∃ W5, W5 = W4.alloc (.cells #[.pointer (some ⟨q, 0, none⟩)] 93) := ⟨_, rfl⟩
  rw [← hW4, ← hW5]
  simp only [Nat.add_assoc, Nat.reduceAdd]
  have m5 : Mod (fun _ => False) w W5 := by rw [hW5]; exact m4.trans' (Mod.alloc _ _ _)
  have z5 : W5.heap.size = w.heap.size + 5 := by rw [hW5]; simp [z4]
  have hI0 : WI w B B2 q p vm P D F a b cap W5 := by
    have hz : ∀ (A1 A2 A3 A4 : Obj), ((((w.alloc A1).alloc A2).alloc A3).alloc A4).heap[w.heap.size]? = some A1 ∧ ((((w.alloc A1).alloc A2).alloc A3).alloc A4).heap[w.heap.size + 1]? = some A2 ∧ ((((w.alloc A1).alloc A2).alloc A3).alloc A4).heap[w.heap.size + 2]? = some A3 ∧ ((((w.alloc A1).alloc A2).alloc A3).alloc A4).heap[w.heap.size + 3]? = some A4 := fun A1 A2 A3 A4 => by
      refine ⟨?_, ?_, ?_, ?_⟩
      · rw [heap_alloc_old _ _ (by simp; omega), heap_alloc_old _ _ (by simp; omega), heap_alloc_old _ _ (by simp), heap_alloc_new]
      · rw [heap_alloc_old _ _ (by simp), heap_alloc_old _ _ (by simp)]; exact heap_alloc2_new _ _ _
      · rw [heap_alloc_old _ _ (by simp)]
        have := heap_alloc_new ((w.alloc A1).alloc A2) A3
        simpa using this
      · have := heap_alloc_new (((w.alloc A1).alloc A2).alloc A3) A4
        simpa using this
    obtain ⟨k0, k1, k2, k3⟩ := hz (.cells #[.pointer (some ⟨q, 0, none⟩)] 93) (.cells #[.slice a b.length cap] 22) (.cells #[.int .i64 0] 3) (.cells #[.int .i64 0] 32)
    rw [← hW4] at k0 k1 k2 k3
    have m45 : Mod (fun _ => False) W4 W5 := by rw [hW5]; exact Mod.alloc _ _ _
    refine ⟨m45.obj k0 id, m45.obj k1 id, m45.obj k2 id, m45.obj k3 id, ?_, hp.mod m5 (fun _ _ => id), hd.mod m5 (fun _ _ => id), hb.mod m5 (fun _ _ _ => id), m5⟩
    unfold Boxed
    rw [hW5, ← z4]
    exact heap_alloc_new _ _
  have hlen := hp.len
  have hpg : P.pages ≤ 4096 := by have := hwf.fit; have := hwf.top; omega
  have hsq := empty_seq (w.heap.size + 4) q p vm P hlen hpg W5 hI0.b4 hI0.pg.at_
  have HI0 := Lib.hid hI0
  clear hI0 c5 hW5 hW4 z4 m4 m5
  refine (wpIn_wide (n := 5)).1 ?_
  refine wpIn_rangeFunc_ownF (F := Fence.wide) (n := 5) rfl (by decide) rfl trivial (fun _ _ => rfl) hsq (fun h k => ⟨k.1.trans h.1, fun hx => k.2 (h.2 hx)⟩) ?hKb (Below.refl _ _) (fun _ => rfl)
    (fun pre W => pre = ([] : List Nat) ∧ WI w B B2 q p vm P D F a b cap W) (fun c pre W => (c = .ret ∧ pre.length = 1) ∧ WX w B B2 q p vm F (P.writeAt D b (P.empties.getD (pre.getLastD 0) 0)) W) (by rw [z5]; exact WI.own hb) (fun c => by rw [z5]; exact WX.own) ⟨rfl, HI0.out⟩ ?a1 ?hassign ?hbody ?hdone ?hstop
  case hassign =>
    intro lp x W K hK
    unfold empV
    gi_wp2
    exact hK
  case hKb =>
    intro W lp o o' hlp ho hno _
    refine ⟨World.cell?_of_block (a := ⟨w.heap.size + 4, 0, none⟩) (World.putObj_heap_other (by show w.heap.size + 4 ≠ lp; omega)), fun hx => ?_⟩
    refine ((Mod.grown (grownBy_putObj' W lp o')).mono (fun k _ e => Option.some.inj e) : Mod (fun k => k = lp) W (W.putObj lp o')).obj hx (fun e => ?_)
    subst e
    rw [ho] at hx
    injection hx with hx
    subst hx
    simp [Obj.isCells] at hno
  case hdone =>
    intro D0 xs W hD0 hxs hI hdef
    obtain ⟨h0, hI⟩ := hI
    have hne : P.empties.length = 0 := by
      rw [h0] at hxs
      have := congrArg List.length hxs
      rw [List.length_range] at this
      exact this.symm
    have x2 := hI.b2.cell
    have x3 := hI.b3.cell
    have f2 := hI.b2.frozen
    have f3 := hI.b3.frozen
    have m23 : Mod (fun k => k = w.heap.size + 2 ∨ k = w.heap.size + 3) W ((W.setCell ⟨w.heap.size + 2, 0, none⟩ (.int .i64 0)).setCell ⟨w.heap.size + 3, 0, none⟩ (.int .i64 4)) := (Mod.setCell _ _ _ (.inl rfl)).trans' (Mod.setCell _ _ _ (.inr rfl))
    have hW : WX w B B2 q p vm F (0, 4, P, D) ((W.setCell ⟨w.heap.size + 2, 0, none⟩ (.int .i64 0)).setCell ⟨w.heap.size + 3, 0, none⟩ (.int .i64 4)) := by
      have hqw := lt_of_block hp.at_
      refine ⟨?_, ?_, hI.pg.mod m23 (fun k hk e => ?_), ⟨F, hI.dk.mod m23 (fun k hk e => ?_), fun k hk => .inl hk⟩, (hI.m.mono (fun _ _ e => e.elim)).trans m23 (fun k hk e => by omega)⟩
      · exact (Mod.setCell (F := fun k => k = w.heap.size + 3) _ _ _ rfl).obj (Boxed.set _ hI.b2) (by omega)
      · exact Boxed.set _ ((Mod.setCell (F := fun k => k = w.heap.size + 2) W _ _ rfl).obj hI.b3 (by omega))
      · rcases hk with rfl | hk
        · omega
        · have := (World.ownsRow.lt hp.mt k hk.symm).2
          omega
      · have := (hd.lt k hk).2
        omega
    have hdf : ((W.setCell ⟨w.heap.size + 2, 0, none⟩ (.int .i64 0)).setCell ⟨w.heap.size + 3, 0, none⟩ (.int .i64 4)).heap[D0]? = some (.deferred (some [])) := m23.obj hdef (by omega)
    have HW := Lib.hid hW
    have HDF := Lib.hid hdf
    clear hW hdf hdef m23 hI HI0 hsq
    go_wp2
    refine ⟨by simp, .inl ⟨_, _, rfl, run_takeDeferred HDF.out, ?_⟩⟩
    have X := (WX.own (w := w) (B := B) (B2 := B2) (q := q) (p := p) (vm := vm) (F := F) (o := fun _ => ((0 : Int), (4 : Int), P, D)) (X := fun _ => True) ([] : List Nat) _ _ _ ⟨trivial, HW.out⟩ (grownBy_putObj' _ D0 (.deferred Option.none)) (fun r e => by cases e; exact ⟨by omega, _, HDF.out, rfl⟩)).2
    obtain ⟨F', hF1, hF2⟩ := X.dk
    exact ⟨_, results_cell2 rfl _ _ rfl rfl X.b2.cell X.b3.cell, by rw [HO.out, if_pos hne]; exact ⟨rfl, X.pg, ⟨F', hF1, fun k hk => (hF2 k hk).imp id (fun e => by omega)⟩, X.m⟩⟩
  case hstop =>
    intro D0 c pre W hD0 hsp hX hdef
    obtain ⟨⟨rfl, hlen1⟩, hX⟩ := hX
    obtain ⟨k, hk, rfl⟩ := hsp
    rw [List.length_range] at hlen1
    subst hlen1
    have hne : ¬ P.empties.length = 0 := by omega
    have HX := Lib.hid hX
    have HDF := Lib.hid hdef
    clear hX hdef HI0 hsq
    gi_wp2
    refine ⟨by simp, .inl ⟨_, _, rfl, run_takeDeferred HDF.out, ?_⟩⟩
    have X := (WX.own (w := w) (B := B) (B2 := B2) (q := q) (p := p) (vm := vm) (F := F) (o := fun _ => P.writeAt D b (P.empties.getD 0 0)) (X := fun _ => True) ([] : List Nat) _ _ _ ⟨trivial, HX.out⟩ (grownBy_putObj' _ D0 (.deferred Option.none)) (fun r e => by cases e; exact ⟨by omega, _, HDF.out, rfl⟩)).2
    obtain ⟨F', hF1, hF2⟩ := X.dk
    exact ⟨_, results_cell2 rfl _ _ rfl rfl X.b2.cell X.b3.cell, by rw [HO.out, if_neg hne]; exact ⟨rfl, X.pg, ⟨F', hF1, fun k hk => (hF2 k hk).imp id (fun e => by omega)⟩, X.m⟩⟩
  case hbody =>
    intro lp pre x W hI hlen2
    obtain ⟨rfl, hI⟩ := hI
    have x0 := hI.b0.cell
    have x1 := hI.b1.cell
    have y0 := hI.pg.head.1
    have y1 := hI.pg.head.2.1
    have hqw := lt_of_block hp.at_
    have hFw : ∀ k, F k → k < w.heap.size := fun k hk => (hd.lt k hk).2
    have hmw : ∀ k, vm.ownBlock = some k → k < w.heap.size := fun k hk => (World.ownsRow.lt hp.mt k hk).2
    have hWs : w.heap.size + 5 ≤ W.heap.size := by have := lt_of_block hI.b4; omega
    have hel := empties_lt P hwf.pos x
    have hfit := hwf.fit
    have htop := hwf.top
    obtain ⟨e, he⟩ : ∃ e, e = P.empties[x]?.getD 0 := ⟨_, rfl⟩
    rw [List.getD_eq_getElem?_getD, ← he] at hel
    have hlast : ([] ++ [x] : List Nat).getLastD 0 = x := rfl
    obtain ⟨o', ho'⟩ : ∃ o', o' = P.writeAt D b e := ⟨_, rfl⟩
    have hoo : P.writeAt D b (P.empties.getD (([] ++ [x] : List Nat).getLastD 0) 0) = o' := by rw [hlast, List.getD_eq_getElem?_getD, ← he, ho']
    unfold Pgr.writeAt at ho'
    have hsl := seal_length b hbl
    have KS : ∀ w', Mod (fun _ => False) W w' → Calls Try.prog 106 #[.slice a b.length cap] w' fun e w'' => ∃ av cv, e = .returned (.slice av 256 cv) ∧ BytesAt w'' av (seal_ b) ∧ Mod (fun _ => False) W w'' := fun w' hm =>
      (sealed_any a b b.length cap rfl hbl (hI.by_.mod hm (fun _ _ _ => id)) w'.heap.size (Nat.le_refl _)).mono fun e w'' ⟨v, h1, h2, h3, _⟩ => by
        obtain ⟨av, cv, rfl, -, -, hbv⟩ := h2.shape
        rw [hsl] at h1
        exact ⟨av, cv, h1, hbv, hm.trans' h3⟩
    have KW : ∀ w' av cv, Mod (fun _ => False) W w' → BytesAt w' av (seal_ b) → Calls Try.prog 40 #[.pointer (some ⟨p, 0, none⟩), .int .i64 ((P.frm : Int) + 2 + (e : Int)), .slice av 256 cv] w' fun r w'' => r = .returned (.int .i64 (D.why ((P.frm + 2 + e : Nat) : Int) (seal_ b))) ∧ Mod F w' w'' ∧ ∃ F', DiskAt w'' B2 p (D.write ((P.frm + 2 + e : Nat) : Int) (seal_ b)) F' ∧ ∀ k, F' k → F k ∨ w'.heap.size ≤ k := fun w' av cv hm hbv => by
      have := (hI.dk.mod hm (fun _ _ => id)).write hlim ((P.frm + 2 + e : Nat) : Int) av (seal_ b) 256 cv hsl hbv (by rw [hsl]; decide)
      rw [show (P.frm : Int) + 2 + (e : Int) = ((P.frm + 2 + e : Nat) : Int) by omega]
      exact this
    have CS : ∀ (G : Nat → Prop) w', Mod G W w' → ¬ G q → ¬ G w.heap.size → ¬ G (w.heap.size + 1) → w'.cell? ⟨w.heap.size, 0, none⟩ = some (.pointer (some ⟨q, 0, none⟩)) ∧ w'.cell? ⟨q, 0, none⟩ = some (.pointer (some ⟨p, 0, none⟩)) ∧ w'.cell? ⟨q, 1, none⟩ = some (.int .i64 (P.frm : Int)) ∧ w'.cell? ⟨w.heap.size + 1, 0, none⟩ = some (.slice a b.length cap) := fun G w' hm h1 h2 h3 =>
      ⟨hm.cell' x0 h2, hm.cell' y0 h1, hm.cell' y1 h1, hm.cell' x1 h3⟩
    have hcells := hI.dk.cells
    have w1 : IntKind.i64.wrap ((P.frm : Int) + 2) = (P.frm : Int) + 2 := IntWalk.i64_in _ (by omega)
    have w2 : IntKind.i64.wrap ((P.frm : Int) + 2 + (e : Int)) = (P.frm : Int) + 2 + (e : Int) := IntWalk.i64_in _ (by omega)
    have HII := Lib.hid hI
    have HO' := Lib.hid ho'
    have HOO := Lib.hid hoo
    have KSh := Lib.hid KS
    have KWh := Lib.hid KW
    have HCE := Lib.hid hcells
    clear KS KW hI ho' hoo hcells hsl hlast hsq HI0
    generalize D.write ((P.frm + 2 + e : Nat) : Int) (seal_ b) = D' at *
    generalize D.why ((P.frm + 2 + e : Nat) : Int) (seal_ b) = why at *
    subst he
    have mdr : Mod (fun _ => False) W W.drew := Mod.drew _ _
    gi_upto_region 9 with fail
    refine wpIn_region_round (fun w' => w'.cell? ⟨w.heap.size, 0, none⟩ = some (.pointer (some ⟨q, 0, none⟩)) ∧ w'.cell? ⟨q, 0, none⟩ = some (.pointer (some ⟨p, 0, none⟩)) ∧ w'.cell? ⟨q, 1, none⟩ = some (.int .i64 (P.frm : Int)) ∧ w'.cell? ⟨w.heap.size + 1, 0, none⟩ = some (.slice a b.length cap)) (by kernel_rfl) (by kernel_rfl) (fun _ _ h => h) (CS _ _ mdr id id id) (fun hHeld => ?_)
    refine wpAnyH_take (i := 0) (oi := ⟨some 23, .load 93 (.tmp 2), 93, "pager.go:203", #[], none⟩) (v := ?_) rfl (by kernel_rfl) (by kernel_rfl) (by kernel_rfl) (fun _ _ _ h => h) (Or.inl ⟨by rfl, ?_⟩) (by assumption) ?_
    rotate_left
    · (intro w hSw; (try dsimp only at hSw); go_simp; try with_reducible rfl)
    simp only [Act.put, List.setIfInBounds_toArray, List.set_cons_zero, List.set_cons_succ]
    refine wpAnyH_take (i := 1) (oi := ⟨some 24, .nilCheck (.tmp 23), 0, "pager.go:203", #[⟨0, .data⟩], none⟩) (v := ?_) rfl (by kernel_rfl) (by kernel_rfl) (by kernel_rfl) (fun _ _ _ h => h) (Or.inl ⟨by rfl, ?_⟩) (by assumption) ?_
    rotate_left
    · (intro w hSw; (try dsimp only at hSw); go_simp; try with_reducible rfl)
    simp only [Act.put, List.setIfInBounds_toArray, List.set_cons_zero, List.set_cons_succ]
    refine wpAnyH_take (i := 2) (oi := ⟨some 25, .fieldAddr 153 (.tmp 24) 0, 0, "pager.go:203", #[⟨1, .data⟩], none⟩) (v := ?_) rfl (by kernel_rfl) (by kernel_rfl) (by kernel_rfl) (fun _ _ _ h => h) (Or.inl ⟨by rfl, ?_⟩) (by assumption) ?_
    rotate_left
    · (intro w hSw; (try dsimp only at hSw); go_simp; try with_reducible rfl)
    simp only [Act.put, List.setIfInBounds_toArray, List.set_cons_zero, List.set_cons_succ]
    refine wpAnyH_take (i := 3) (oi := ⟨some 26, .load 40 (.tmp 25), 40, "pager.go:203", #[⟨2, .data⟩], none⟩) (v := ?_) rfl (by kernel_rfl) (by kernel_rfl) (by kernel_rfl) (fun _ _ _ h => h) (Or.inl ⟨by rfl, ?_⟩) (by assumption) ?_
    rotate_left
    · (intro w hSw; (try dsimp only at hSw); go_simp; try with_reducible rfl)
    simp only [Act.put, List.setIfInBounds_toArray, List.set_cons_zero, List.set_cons_succ]
    refine wpAnyH_take (i := 4) (oi := ⟨some 27, .load 93 (.tmp 2), 93, "pager.go:203", #[], none⟩) (v := ?_) rfl (by kernel_rfl) (by kernel_rfl) (by kernel_rfl) (fun _ _ _ h => h) (Or.inl ⟨by rfl, ?_⟩) (by assumption) ?_
    rotate_left
    · (intro w hSw; (try dsimp only at hSw); go_simp; try with_reducible rfl)
    simp only [Act.put, List.setIfInBounds_toArray, List.set_cons_zero, List.set_cons_succ]
    refine wpAnyH_take (i := 5) (oi := ⟨some 28, .nilCheck (.tmp 27), 0, "pager.go:203", #[⟨4, .data⟩], none⟩) (v := ?_) rfl (by kernel_rfl) (by kernel_rfl) (by kernel_rfl) (fun _ _ _ h => h) (Or.inl ⟨by rfl, ?_⟩) (by assumption) ?_
    rotate_left
    · (intro w hSw; (try dsimp only at hSw); go_simp; try with_reducible rfl)
    simp only [Act.put, List.setIfInBounds_toArray, List.set_cons_zero, List.set_cons_succ]
    refine wpAnyH_take (i := 6) (oi := ⟨some 29, .fieldAddr 153 (.tmp 28) 1, 0, "pager.go:203", #[⟨5, .data⟩], none⟩) (v := ?_) rfl (by kernel_rfl) (by kernel_rfl) (by kernel_rfl) (fun _ _ _ h => h) (Or.inl ⟨by rfl, ?_⟩) (by assumption) ?_
    rotate_left
    · (intro w hSw; (try dsimp only at hSw); go_simp; try with_reducible rfl)
    simp only [Act.put, List.setIfInBounds_toArray, List.set_cons_zero, List.set_cons_succ]
    refine wpAnyH_take (i := 7) (oi := ⟨some 30, .load 3 (.tmp 29), 3, "pager.go:203", #[⟨6, .data⟩], none⟩) (v := ?_) rfl (by kernel_rfl) (by kernel_rfl) (by kernel_rfl) (fun _ _ _ h => h) (Or.inl ⟨by rfl, ?_⟩) (by assumption) ?_
    rotate_left
    · (intro w hSw; (try dsimp only at hSw); go_simp; try with_reducible rfl)
    simp only [Act.put, List.setIfInBounds_toArray, List.set_cons_zero, List.set_cons_succ]
    refine wpAnyH_take (i := 8) (oi := ⟨some 31, .binOp .add 3 (.tmp 30) (.const (.int .i64 2)) 3, 3, "pager.go:203", #[⟨7, .data⟩], none⟩) (v := ?_) rfl (by kernel_rfl) (by kernel_rfl) (by kernel_rfl) (fun _ _ _ h => h) (Or.inl ⟨by rfl, ?_⟩) (by assumption) ?_
    rotate_left
    · (intro w hSw; (try dsimp only at hSw); go_simp; try with_reducible rfl)
    simp only [Act.put, List.setIfInBounds_toArray, List.set_cons_zero, List.set_cons_succ]
    refine wpAnyH_take (i := 9) (oi := ⟨some 32, .move (.tmp 6), 3, "pager.go:203", #[], none⟩) (v := ?_) rfl (by kernel_rfl) (by kernel_rfl) (by kernel_rfl) (fun _ _ _ h => h) (Or.inl ⟨by rfl, ?_⟩) (by assumption) ?_
    rotate_left
    · (intro w hSw; (try dsimp only at hSw); go_simp; try with_reducible rfl)
    simp only [Act.put, List.setIfInBounds_toArray, List.set_cons_zero, List.set_cons_succ]
    refine wpAnyH_take (i := 10) (oi := ⟨some 33, .binOp .add 3 (.tmp 31) (.tmp 32) 3, 3, "pager.go:203", #[⟨8, .data⟩, ⟨9, .data⟩], none⟩) (v := ?_) rfl (by kernel_rfl) (by kernel_rfl) (by kernel_rfl) (fun _ _ _ h => h) (Or.inl ⟨by rfl, ?_⟩) (by assumption) ?_
    rotate_left
    · (intro w hSw; (try dsimp only at hSw); go_simp; try with_reducible rfl)
    simp only [Act.put, List.setIfInBounds_toArray, List.set_cons_zero, List.set_cons_succ]
    refine wpAnyH_take (i := 11) (oi := ⟨some 34, .load 22 (.tmp 3), 22, "pager.go:203", #[], none⟩) (v := ?_) rfl (by kernel_rfl) (by kernel_rfl) (by kernel_rfl) (fun _ _ _ h => h) (Or.inl ⟨by rfl, ?_⟩) (by assumption) ?_
    rotate_left
    · (intro w hSw; (try dsimp only at hSw); go_simp; try with_reducible rfl)
    simp only [Act.put, List.setIfInBounds_toArray, List.set_cons_zero, List.set_cons_succ]
    refine wpAnyH_ready (rs := [12]) (by kernel_rfl) (by simp) ?_
    refine AllReadyH.cons (o := ⟨some 35, .call { callee := .value (.func 106), args := #[.tmp 34], argTypes := #[22] }, 22, "pager.go:203", #[⟨11, .data⟩], none⟩) rfl (fun K hK => ?_) AllReadyH.nil
    go_simp
    refine (KSh.out _ mdr).mono ?_
    rintro r wa ⟨av, cv, rfl, hbv, ma⟩
    try simp only []
    refine hK.out _ _ (CS _ _ ma id id id) (fun _ => ?_)
    clear hK K
    try simp only [Act.put, List.setIfInBounds_toArray, List.set_cons_zero, List.set_cons_succ]
    refine wpAnyH_ready (rs := [13]) (by kernel_rfl) (by simp) ?_
    refine AllReadyH.cons (o := ⟨some 36, .call { callee := .value (.func 40), args := #[.tmp 26, .tmp 33, .tmp 35], argTypes := #[40, 3, 22] }, 32, "pager.go:203", #[⟨3, .data⟩, ⟨10, .data⟩, ⟨12, .data⟩, ⟨12, .chain⟩], none⟩) rfl (fun K hK => ?_) AllReadyH.nil
    go_simp
    refine (KWh.out _ av cv ma hbv).mono ?_
    rintro r wd ⟨rfl, mwd, hdd'⟩
    have md : Mod F W wd := (ma.mono (fun _ _ e => e.elim)).trans' mwd
    try simp only []
    refine hK.out _ _ (CS _ _ md hqF (fun h => by have := hFw _ h; omega) (fun h => by have := hFw _ h; omega)) (fun _ => ?_)
    clear hK K
    try simp only [Act.put, List.setIfInBounds_toArray, List.set_cons_zero, List.set_cons_succ]
    refine wpAnyH_take (i := 14) (oi := ⟨some 7, .assign (.tmp 36), 32, "pager.go:203", #[⟨13, .data⟩, ⟨13, .chain⟩, ⟨0, .phase⟩, ⟨1, .phase⟩, ⟨2, .phase⟩, ⟨3, .phase⟩, ⟨4, .phase⟩, ⟨5, .phase⟩, ⟨6, .phase⟩, ⟨7, .phase⟩, ⟨8, .phase⟩, ⟨9, .phase⟩, ⟨10, .phase⟩, ⟨11, .phase⟩, ⟨12, .phase⟩, ⟨13, .phase⟩], none⟩) (v := ?_) rfl (by kernel_rfl) (by kernel_rfl) (by kernel_rfl) (fun _ _ _ h => h) (Or.inl ⟨by rfl, ?_⟩) (by assumption) ?_
    rotate_left
    · (intro w hSw; (try dsimp only at hSw); go_simp; try with_reducible rfl)
    simp only [Act.put, List.setIfInBounds_toArray, List.set_cons_zero, List.set_cons_succ]
    refine wpAnyH_done (by kernel_rfl) ?_ _
    have hpgd := HII.out.pg.mod md (fun k hk e => by
      rcases hk with rfl | hk
      · exact hqF e
      · exact hmF k hk.symm e)
    have b2d : Boxed wd (w.heap.size + 2) 3 (.int .i64 0) := md.obj HII.out.b2 (fun h => by have := hFw _ h; omega)
    have b3d : Boxed wd (w.heap.size + 3) 32 (.int .i64 0) := md.obj HII.out.b3 (fun h => by have := hFw _ h; omega)
    have b0b : Boxed wd w.heap.size 93 (.pointer (some ⟨q, 0, none⟩)) := md.obj HII.out.b0 (fun h => by have := hFw _ h; omega)
    have b0d := b0b.cell
    have c5 := hpgd.tail.2.2.2.2
    have f5 := thaw_of (i := 4103) hpgd.at_
    have x2 := b2d.cell
    have x3 := b3d.cell
    have g2 := b2d.frozen
    have g3 := b3d.frozen
    have hmW := HII.out.m
    have hma := ma.size
    generalize P.empties[x]?.getD 0 = e at *
    have he4 : e < 4096 := by omega
    have hce := hpgd.is_cell e he4
    have f6 := thaw_of (i := 3 + e) hpgd.at_
    have hei : (0 : Int) ≤ (e : Int) := by omega
    have hej : (e : Int) < 4096 := by omega
    generalize P.is_[e]'_ = ce at hce
    have HCE2 := HCE
    have HATW := Lib.hid HII.out.pg.at_
    have HB2W := Lib.hid HII.out.b2
    have HB3W := Lib.hid HII.out.b3
    have HQF' : Hid (∀ F', (DiskAt wd B2 p D' F' ∧ ∀ k, F' k → F k ∨ wa.heap.size ≤ k) → ∀ k, F' k → k = q → False) := Lib.hid (fun F' h k hk e => by
      subst e
      rcases h.2 k hk with h | h
      · exact hqF h
      · omega)
    have HPG := Lib.hid hpgd
    have HB2 := Lib.hid b2d
    have HB3 := Lib.hid b3d
    have HMW := Lib.hid hmW
    have HMD := Lib.hid md
    clear hpgd b2d b3d hmW md mwd ma hbv KSh KWh HII CS
    by_cases h0 : why = 0
    · subst h0
      have ho := HO'.out
      rw [if_pos rfl] at ho
      have hq5 : Mod (fun k => k = q) wd (wd.setCell ⟨q, 3 + e, none⟩ (byteV 2)) := Mod.setCell _ _ _ rfl
      have hfin := wx_fin (x := (e : Int)) (y := 0) hqw hFw hmw hWs HMW.out ((HMD.out.mono (fun _ _ e => .inr e)).trans' (hq5.mono (fun _ _ e => .inl e))) (fun k hk => hk.elim (fun e => by subst e; exact ⟨_, _, _, HATW.out⟩) (HCE.out k)) (HPG.out.setIs e he4 2) (hdd'.imp fun F' h => ⟨h.1.mod hq5 (fun k hk e => HQF'.out F' h k hk e), fun k hk => (h.2 k hk).imp id (fun e => Nat.le_trans hma e)⟩) HB2W.out HB3W.out
      rw [← ho] at hfin
      have HFIN := Lib.hid hfin
      clear hfin hq5
      gi_wp2
      refine ⟨HFIN.out.1, ⟨rfl, rfl⟩, ?_⟩
      have hx := HFIN.out.2
      rw [← HOO.out] at hx
      exact hx
    · have ho := HO'.out
      rw [if_neg h0] at ho
      have hq5 : Mod (fun k => k = q) wd (wd.setCell ⟨q, 4103, none⟩ (.bool true)) := Mod.setCell _ _ _ rfl
      have hfin := wx_fin (x := 0) (y := why) hqw hFw hmw hWs HMW.out ((HMD.out.mono (fun _ _ e => .inr e)).trans' (hq5.mono (fun _ _ e => .inl e))) (fun k hk => hk.elim (fun e => by subst e; exact ⟨_, _, _, HATW.out⟩) (HCE.out k)) (HPG.out.setDead true) (hdd'.imp fun F' h => ⟨h.1.mod hq5 (fun k hk e => HQF'.out F' h k hk e), fun k hk => (h.2 k hk).imp id (fun e => Nat.le_trans hma e)⟩) HB2W.out HB3W.out
      rw [← ho] at hfin
      have HFIN := Lib.hid hfin
      clear hfin hq5
      gi_wp2
      refine ⟨HFIN.out.1, ⟨rfl, rfl⟩, ?_⟩
      have hx := HFIN.out.2
      rw [← HOO.out] at hx
      exact hx

set_option maxHeartbeats 1000000 in
set_option maxRecDepth 100000 in
theorem pwrite_no {w : World} {B B2 q p : Nat} {vm : Value} {P : Pgr} {D : Dsk} {F : Nat → Prop} (hp : PgV w B q p vm P) (hd : DiskAt w B2 p D F)
    (a : Option Addr) (b : List UInt8) (n cap : Nat) (hn : b.length = n) (hno : P.dead = true ∨ 252 < b.length) :
    Calls Try.prog 66 #[.pointer (some ⟨q, 0, none⟩), .slice a n cap] w fun e w' => WSaid w B B2 q p vm F (if P.dead = true then (0, 21, P, D) else (0, 3, P, D)) e w' := by
  subst hn
  have hk : ∀ (A1 A2 A3 A4 : Obj), ((((w.alloc A1).alloc A2).alloc A3).alloc A4).heap[w.heap.size + 1 + 1]? = some A3 ∧ ((((w.alloc A1).alloc A2).alloc A3).alloc A4).heap[w.heap.size + 1 + 1 + 1]? = some A4 := fun A1 A2 A3 A4 => by
    refine ⟨?_, ?_⟩
    · rw [heap_alloc_old _ _ (by simp)]
      have := heap_alloc_new ((w.alloc A1).alloc A2) A3
      simpa using this
    · have := heap_alloc_new (((w.alloc A1).alloc A2).alloc A3) A4
      simpa using this
  have hm : ∀ (A1 A2 A3 A4 : Obj), Mod (fun _ => False) w ((((w.alloc A1).alloc A2).alloc A3).alloc A4) := fun A1 A2 A3 A4 => (((Mod.alloc _ _ _).trans' (Mod.alloc _ _ _)).trans' (Mod.alloc _ _ _)).trans' (Mod.alloc _ _ _)
  have c5 := (hm (.cells #[.pointer (some ⟨q, 0, none⟩)] 93) (.cells #[.slice a b.length cap] 22) (.cells #[.int .i64 0] 3) (.cells #[.int .i64 0] 32)).cell' hp.tail.2.2.2.2 id
  cases hdd : P.dead with
  | true =>
    rw [hdd] at c5
    rw [if_pos rfl]
    go_enter Try.func66, Try.ntmps66
    go_wp2
    obtain ⟨k2, k3⟩ := hk (.cells #[.pointer (some ⟨q, 0, none⟩)] 93) (.cells #[.slice a b.length cap] 22) (.cells #[.int .i64 0] 3) (.cells #[.int .i64 21] 32)
    have hm2 := hm (.cells #[.pointer (some ⟨q, 0, none⟩)] 93) (.cells #[.slice a b.length cap] 22) (.cells #[.int .i64 0] 3) (.cells #[.int .i64 21] 32)
    exact bodyPost_ret (results_cell2 rfl _ _ rfl rfl (cell_of_row _ _ 0 _ 3 (0, 0) k2) (cell_of_row _ _ 0 _ 32 (0, 0) k3)) rfl ⟨rfl, hp.mod hm2 (fun _ _ => id), ⟨F, hd.mod hm2 (fun _ _ => id), fun k hk => .inl hk⟩, hm2.mono (fun _ _ e => e.elim)⟩
  | false =>
    rw [hdd] at c5
    have hbl : 252 < (b.length : Int) := by exact (hno.elim (fun h => by rw [hdd] at h; cases h) (fun h => by omega))
    rw [if_neg (by decide)]
    go_enter Try.func66, Try.ntmps66
    go_wp2
    obtain ⟨k2, k3⟩ := hk (.cells #[.pointer (some ⟨q, 0, none⟩)] 93) (.cells #[.slice a b.length cap] 22) (.cells #[.int .i64 0] 3) (.cells #[.int .i64 3] 32)
    have hm2 := hm (.cells #[.pointer (some ⟨q, 0, none⟩)] 93) (.cells #[.slice a b.length cap] 22) (.cells #[.int .i64 0] 3) (.cells #[.int .i64 3] 32)
    exact bodyPost_ret (results_cell2 rfl _ _ rfl rfl (cell_of_row _ _ 0 _ 3 (0, 0) k2) (cell_of_row _ _ 0 _ 32 (0, 0) k3)) rfl ⟨rfl, hp.mod hm2 (fun _ _ => id), ⟨F, hd.mod hm2 (fun _ _ => id), fun k hk => .inl hk⟩, hm2.mono (fun _ _ e => e.elim)⟩
end Go.Proofs.Ytdinnkacilgmmaa
namespace Go.Proofs.Ytdinnkacilgmmaa
open Go.RowKit

/-- there is one: what IndexFunc tells -/
def Found (l : List Int) (g : Int → Bool) (e : Ending) : Prop := ∃ i : Int, e = .returned (.int .i64 i) ∧ (decide (0 ≤ i) = l.any g)

set_option maxHeartbeats 1000000 in
set_option maxRecDepth 100000 in
theorem index_110 {w : World} (a : Option Addr) (l : List Int) (n cap : Nat) (hn : l.length = n) (hll : l.length ≤ 140737488355328) (hl : IntsAt w a l) (box : Value) (g : Int → Bool)
    (hK : ∀ x, Calls Try.prog 110 #[.int .i64 x, box] w fun e w' => e = .returned (.bool (g x)) ∧ w = w') :
    Calls Try.prog 131 #[.slice a n cap, .func (.func 110) #[] #[box]] w fun e w' => Found l g e ∧ w = w' := by
  subst hn
  have HK := Lib.hid hK
  clear hK
  go_enter Try.func131, Try.ntmps131
  go_wp2_with fail
  go_loopw [8] (fun v8 wr => ∃ i : Nat, i ≤ l.length ∧ v8 = .int .i64 (i : Int) ∧ (l.take i).any g = false ∧ w = wr) (fun v8 _ => l.length - (intOf v8).toNat)
  case atStart => exact ⟨0, Nat.zero_le _, rfl, rfl, rfl⟩
  case round =>
    obtain ⟨i, hi, rfl, hany, rfl⟩ := hrel
    by_cases hlt : i < l.length
    · have hlt' : (i : Int) < (l.length : Int) := by omega
      have hne : l ≠ [] := by intro e; rw [e] at hlt; exact absurd hlt (Nat.not_lt_zero _)
      obtain ⟨b, off, rfl, hc⟩ := hl hne
      have hci := hc i hlt
      have hmem : l[i] ∈ l := List.getElem_mem _
      have hK := HK.out l[i]
      have hst : (l.take (i + 1)).any g = g l[i] := by
        rw [List.take_succ_eq_append_getElem hlt, List.any_append, hany]; simp
      have hgl : g l[i] = true → l.any g = true := fun h => List.any_eq_true.2 ⟨_, hmem, h⟩
      have HST := Lib.hid hst
      have HGL := Lib.hid hgl
      clear hst hgl hany hmem hc hne
      generalize l[i] = x at *
      cases hg : g x
      · rw [hg] at hK
        replace hK := Lib.hid hK
        go_wp2_with (go_at_call 110; refine hK.out.mono ?_; rintro e wb ⟨rfl, rfl⟩)
        go_roundw
        case rel => exact ⟨i + 1, by omega, by go_num, by rw [HST.out, hg], trivial⟩
        case measure => simp [intOf]; omega
      · rw [hg] at hK
        have hyes := Lib.hid (HGL.out hg)
        replace hK := Lib.hid hK
        clear hg
        go_wp2_with (go_at_call 110; refine hK.out.mono ?_; rintro e wb ⟨rfl, rfl⟩)
        go_ret
        exact ⟨⟨_, rfl, by rw [hyes.out]; exact decide_eq_true (by omega)⟩, rfl⟩
    · obtain rfl : i = l.length := by omega
      rw [List.take_length] at hany
      have HANY := Lib.hid hany
      clear hany
      go_wp2
      go_ret
      exact ⟨⟨_, rfl, by rw [HANY.out]; decide⟩, rfl⟩

set_option maxRecDepth 100000 in
theorem contains_110 {w : World} (a : Option Addr) (l : List Int) (n cap : Nat) (hn : l.length = n) (hll : l.length ≤ 140737488355328) (hl : IntsAt w a l) (box : Value) (g : Int → Bool)
    (hK : ∀ x, Calls Try.prog 110 #[.int .i64 x, box] w fun e w' => e = .returned (.bool (g x)) ∧ w = w') :
    Calls Try.prog 109 #[.slice a n cap, .func (.func 110) #[] #[box]] w fun e w' => e = .returned (.bool (l.any g)) ∧ w = w' := by
  obtain ⟨o, ho⟩ : ∃ o, o = l.any g := ⟨_, rfl⟩
  have KI := index_110 a l n cap hn hll hl box g hK
  rw [← ho]
  have KI2 : Calls Try.prog 131 #[.slice a n cap, .func (.func 110) #[] #[box]] w fun e w' => (∃ i : Int, e = .returned (.int .i64 i) ∧ decide (0 ≤ i) = o) ∧ w = w' := KI.mono fun e w' ⟨⟨i, h1, h2⟩, h3⟩ => ⟨⟨i, h1, h2.trans ho.symm⟩, h3⟩
  clear KI ho hK hl hll hn
  go_enter Try.func109, Try.ntmps109
  go_wp2_with fail
  refine KI2.mono ?_
  rintro e wb ⟨⟨i, rfl, hi⟩, rfl⟩
  have HI := Lib.hid hi
  clear hi
  go_wp2
  go_ret
  refine ⟨ret_val ?_, rfl⟩
  exact congrArg Value.bool HI.out

set_option maxHeartbeats 1000000 in
set_option maxRecDepth 100000 in
theorem index_114 {w : World} (a : Option Addr) (l : List Int) (n cap : Nat) (hn : l.length = n) (hll : l.length ≤ 140737488355328) (hl : IntsAt w a l) (box : Value) (g : Int → Bool)
    (hK : ∀ x, Calls Try.prog 114 #[.int .i64 x, box] w fun e w' => e = .returned (.bool (g x)) ∧ w = w') :
    Calls Try.prog 131 #[.slice a n cap, .func (.func 114) #[] #[box]] w fun e w' => Found l g e ∧ w = w' := by
  subst hn
  have HK := Lib.hid hK
  clear hK
  go_enter Try.func131, Try.ntmps131
  go_wp2_with fail
  go_loopw [8] (fun v8 wr => ∃ i : Nat, i ≤ l.length ∧ v8 = .int .i64 (i : Int) ∧ (l.take i).any g = false ∧ w = wr) (fun v8 _ => l.length - (intOf v8).toNat)
  case atStart => exact ⟨0, Nat.zero_le _, rfl, rfl, rfl⟩
  case round =>
    obtain ⟨i, hi, rfl, hany, rfl⟩ := hrel
    by_cases hlt : i < l.length
    · have hlt' : (i : Int) < (l.length : Int) := by omega
      have hne : l ≠ [] := by intro e; rw [e] at hlt; exact absurd hlt (Nat.not_lt_zero _)
      obtain ⟨b, off, rfl, hc⟩ := hl hne
      have hci := hc i hlt
      have hmem : l[i] ∈ l := List.getElem_mem _
      have hK := HK.out l[i]
      have hst : (l.take (i + 1)).any g = g l[i] := by
        rw [List.take_succ_eq_append_getElem hlt, List.any_append, hany]; simp
      have hgl : g l[i] = true → l.any g = true := fun h => List.any_eq_true.2 ⟨_, hmem, h⟩
      have HST := Lib.hid hst
      have HGL := Lib.hid hgl
      clear hst hgl hany hmem hc hne
      generalize l[i] = x at *
      cases hg : g x
      · rw [hg] at hK
        replace hK := Lib.hid hK
        go_wp2_with (go_at_call 114; refine hK.out.mono ?_; rintro e wb ⟨rfl, rfl⟩)
        go_roundw
        case rel => exact ⟨i + 1, by omega, by go_num, by rw [HST.out, hg], trivial⟩
        case measure => simp [intOf]; omega
      · rw [hg] at hK
        have hyes := Lib.hid (HGL.out hg)
        replace hK := Lib.hid hK
        clear hg
        go_wp2_with (go_at_call 114; refine hK.out.mono ?_; rintro e wb ⟨rfl, rfl⟩)
        go_ret
        exact ⟨⟨_, rfl, by rw [hyes.out]; exact decide_eq_true (by omega)⟩, rfl⟩
    · obtain rfl : i = l.length := by omega
      rw [List.take_length] at hany
      have HANY := Lib.hid hany
      clear hany
      go_wp2
      go_ret
      exact ⟨⟨_, rfl, by rw [HANY.out]; decide⟩, rfl⟩

set_option maxRecDepth 100000 in
theorem contains_114 {w : World} (a : Option Addr) (l : List Int) (n cap : Nat) (hn : l.length = n) (hll : l.length ≤ 140737488355328) (hl : IntsAt w a l) (box : Value) (g : Int → Bool)
    (hK : ∀ x, Calls Try.prog 114 #[.int .i64 x, box] w fun e w' => e = .returned (.bool (g x)) ∧ w = w') :
    Calls Try.prog 109 #[.slice a n cap, .func (.func 114) #[] #[box]] w fun e w' => e = .returned (.bool (l.any g)) ∧ w = w' := by
  obtain ⟨o, ho⟩ : ∃ o, o = l.any g := ⟨_, rfl⟩
  have KI := index_114 a l n cap hn hll hl box g hK
  rw [← ho]
  have KI2 : Calls Try.prog 131 #[.slice a n cap, .func (.func 114) #[] #[box]] w fun e w' => (∃ i : Int, e = .returned (.int .i64 i) ∧ decide (0 ≤ i) = o) ∧ w = w' := KI.mono fun e w' ⟨⟨i, h1, h2⟩, h3⟩ => ⟨⟨i, h1, h2.trans ho.symm⟩, h3⟩
  clear KI ho hK hl hll hn
  go_enter Try.func109, Try.ntmps109
  go_wp2_with fail
  refine KI2.mono ?_
  rintro e wb ⟨⟨i, rfl, hi⟩, rfl⟩
  have HI := Lib.hid hi
  clear hi
  go_wp2
  go_ret
  refine ⟨ret_val ?_, rfl⟩
  exact congrArg Value.bool HI.out
end Go.Proofs.Ytdinnkacilgmmaa
namespace Go.Proofs.Ytdinnkacilgmmaa
open Go.RowKit

/-- a page that a root may not use -/
def Pgr.noFlip (P : Pgr) (x : Int) : Bool := !P.there x || (P.is_.getD x.toNat 0 == 0)
def Pgr.noUse (P : Pgr) (x : Int) : Bool := !P.there x

set_option maxRecDepth 100000 in
theorem close114_any {w : World} {B q p k : Nat} {vm : Value} {P : Pgr} (hp : PgV w B q p vm P) (hk : w.cell? ⟨k, 0, none⟩ = some (.pointer (some ⟨q, 0, none⟩))) (x : Int) :
    Calls Try.prog 114 #[.int .i64 x, .pointer (some ⟨k, 0, none⟩)] w fun e w' => e = .returned (.bool (P.noUse x)) ∧ w = w' := by
  unfold Pgr.noUse
  obtain ⟨t, ht⟩ : ∃ t, t = P.there x := ⟨_, rfl⟩
  have KT := there_any hp x
  rw [← ht] at KT
  rw [← ht]
  replace KT := Lib.hid KT
  clear ht hp
  go_enter Try.func114, Try.ntmps114
  go_wp2_with (first | (go_at_call 107; refine KT.out.mono ?_; rintro e wb ⟨rfl, rfl⟩))
  go_ret
  exact ⟨rfl, rfl⟩

set_option maxRecDepth 100000 in
theorem close110_any {w : World} {B q p k : Nat} {vm : Value} {P : Pgr} (hp : PgV w B q p vm P) (hpg : P.pages ≤ 4096) (hk : w.cell? ⟨k, 0, none⟩ = some (.pointer (some ⟨q, 0, none⟩))) (x : Int) :
    Calls Try.prog 110 #[.int .i64 x, .pointer (some ⟨k, 0, none⟩)] w fun e w' => e = .returned (.bool (P.noFlip x)) ∧ w = w' := by
  obtain ⟨t, ht⟩ : ∃ t, t = P.noFlip x := ⟨_, rfl⟩
  have KT := there_any hp x
  rw [← ht]
  unfold Pgr.noFlip at ht
  by_cases h : P.there x = true
  · have ht' : 0 ≤ x ∧ x < (P.pages : Int) := of_decide_eq_true h
    obtain ⟨m, rfl⟩ : ∃ m : Nat, x = (m : Int) := ⟨x.toNat, by omega⟩
    have hm : m < 4096 := by omega
    have hc := hp.is_cell m hm
    have hgm : P.is_.getD m 0 = P.is_[m]'(by have := hp.len; omega) := by simp [List.getD_eq_getElem?_getD, List.getElem?_eq_getElem (show m < P.is_.length by have := hp.len; omega)]
    rw [← hgm] at hc
    rw [h] at KT ht
    rw [Int.toNat_natCast] at ht
    replace KT := Lib.hid KT
    have hmi : (0 : Int) ≤ (m : Int) := by omega
    have hmj : (m : Int) < 4096 := by omega
    have HT := Lib.hid ht
    clear ht hp hgm h ht'
    generalize P.is_.getD m 0 = c at *
    unfold byteV at hc
    by_cases h0 : c = 0
    · subst h0
      have ht := HT.out
      subst ht
      clear HT
      go_enter Try.func110, Try.ntmps110
      go_wp2_with (first | (go_at_call 107; refine KT.out.mono ?_; rintro e wb ⟨rfl, rfl⟩))
      go_ret
      exact ⟨rfl, rfl⟩
    · have hc0 : ((c.toNat : Int) == 0) = false := by
        rw [beq_eq_false_iff_ne]
        intro e
        exact h0 (UInt8.toNat_inj.1 (by show c.toNat = 0; omega))
      have ht := HT.out
      have e : (c == 0) = false := by simpa using h0
      rw [e] at ht
      subst ht
      clear HT e h0
      go_enter Try.func110, Try.ntmps110
      go_wp2_with (first | (go_at_call 107; refine KT.out.mono ?_; rintro e wb ⟨rfl, rfl⟩))
      go_ret
      exact ⟨rfl, rfl⟩
  · have hf : P.there x = false := by simpa using h
    rw [hf] at KT ht
    subst ht
    replace KT := Lib.hid KT
    clear hp h hf
    go_enter Try.func110, Try.ntmps110
    go_wp2_with (first | (go_at_call 107; refine KT.out.mono ?_; rintro e wb ⟨rfl, rfl⟩))
    go_ret
    exact ⟨rfl, rfl⟩

def Pgr.whyUse (P : Pgr) (l : List Int) : Int := if l.any P.noUse = true then 1 else 0
def Pgr.use (P : Pgr) (l : List Int) : Pgr := if l.any P.noUse = true then P else { P with is_ := setAll l zeros4096 }
theorem not_any_noUse {P : Pgr} {l : List Int} (h : l.any P.noUse = false) (hpg : P.pages ≤ 4096) : ∀ x ∈ l, 0 ≤ x ∧ x < 4096 := fun x hx => by
  have := List.any_eq_false.1 h x hx
  unfold Pgr.noUse at this
  have h1 : P.there x = true := by simpa using this
  have h2 : 0 ≤ x ∧ x < (P.pages : Int) := of_decide_eq_true h1
  omega
theorem not_any_noFlip {P : Pgr} {l : List Int} (h : l.any P.noFlip = false) (hpg : P.pages ≤ 4096) : ∀ x ∈ l, 0 ≤ x ∧ x < 4096 := fun x hx => by
  have := List.any_eq_false.1 h x hx
  unfold Pgr.noFlip at this
  have h1 : P.there x = true := by
    cases e : P.there x
    · rw [e] at this; exact absurd rfl this
    · rfl
  have h2 : 0 ≤ x ∧ x < (P.pages : Int) := of_decide_eq_true h1
  omega

set_option maxRecDepth 100000 in
theorem puse_any {w : World} {B q p : Nat} {vm : Value} {P : Pgr} (hp : PgV w B q p vm P) (hpg : P.pages ≤ 4096) (a : Option Addr) (l : List Int) (n cap : Nat) (hn : l.length = n) (hll : l.length ≤ 140737488355328) (hl : IntsAt w a l) (hla : ∀ x, a = some x → l ≠ [] → ¬ x.block = q) :
    Calls Try.prog 78 #[.pointer (some ⟨q, 0, none⟩), .slice a n cap] w fun e w' => e = .returned (.int .i64 (P.whyUse l)) ∧ PgV w' B q p vm (P.use l) ∧ Mod (fun k => k = q) w w' := by
  subst hn
  obtain ⟨o, ho⟩ : ∃ o, o = P.whyUse l := ⟨_, rfl⟩
  obtain ⟨P', hP'⟩ : ∃ P', P' = P.use l := ⟨_, rfl⟩
  rw [← ho, ← hP']
  unfold Pgr.whyUse at ho
  unfold Pgr.use at hP'
  have m1 : Mod (fun _ => False) w (w.alloc (.cells #[.pointer (some ⟨q, 0, none⟩)] 93)) := Mod.alloc _ _ _
  have hk : (w.alloc (.cells #[.pointer (some ⟨q, 0, none⟩)] 93)).cell? ⟨w.heap.size, 0, none⟩ = some (.pointer (some ⟨q, 0, none⟩)) := cell_of_row _ _ 0 _ 93 (0, 0) (heap_alloc_new _ _)
  have hp1 := hp.mod m1 (fun _ _ => id)
  have hl1 := hl.mod m1 (fun _ _ _ => id)
  have KC := contains_114 a l l.length cap rfl hll hl1 (.pointer (some ⟨w.heap.size, 0, none⟩)) P.noUse (fun x => close114_any hp1 hk x)
  by_cases h : l.any P.noUse = true
  · rw [h] at KC
    rw [if_pos h] at ho hP'
    subst ho hP'
    replace KC := Lib.hid KC
    have HP := Lib.hid hp1
    have M1 := Lib.hid m1
    clear h hp hp1 m1 hk hl hl1
    go_enter Try.func78, Try.ntmps78
    go_wp2_with fail
    refine KC.out.mono ?_
    rintro e wb ⟨rfl, rfl⟩
    go_wp2
    go_ret
    exact ⟨rfl, HP.out, M1.out.mono (fun _ _ e => e.elim)⟩
  · have h' : l.any P.noUse = false := by simpa using h
    rw [h'] at KC
    rw [if_neg h] at ho hP'
    subst ho hP'
    have KS := pset_any hp1 a l l.length cap rfl hll hl1 hla (not_any_noUse h' hpg)
    replace KC := Lib.hid KC
    have M1 := Lib.hid m1
    replace KS := Lib.hid KS
    clear h h' hp hp1 m1 hl hl1
    go_enter Try.func78, Try.ntmps78
    go_wp2_with fail
    refine KC.out.mono ?_
    rintro e wb ⟨rfl, rfl⟩
    go_wp2_with fail
    refine KS.out.mono ?_
    rintro e wb ⟨rfl, hp2, m2⟩
    go_wp2
    go_ret
    exact ⟨rfl, hp2, (M1.out.mono (fun _ _ e => e.elim)).trans' m2⟩
end Go.Proofs.Ytdinnkacilgmmaa
