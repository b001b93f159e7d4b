/- The pager: empty, Free. -/
import Derived.Test.YtdinnkacilgmmaaPag8
namespace Go.Proofs.Ytdinnkacilgmmaa
open Go.RowKit

def freeAt (P : Pgr) (n : Nat) : Bool := P.is_.getD n 0 == 0
/-- the free pages, rising -/
def Pgr.empties (P : Pgr) : List Nat := (List.range P.pages).filter (freeAt P)
theorem empties_at (P : Pgr) (n : Nat) (hn : n < P.pages) (hf : freeAt P n = true) : P.empties.getD ((List.range n).filter (freeAt P)).length 0 = n ∧ ((List.range n).filter (freeAt P)).length < P.empties.length := by
  have hsp : List.range P.pages = List.range n ++ n :: (List.range (P.pages - n - 1)).map (n + 1 + ·) := by
    rw [show P.pages = n + (1 + (P.pages - n - 1)) by omega, List.range_add, List.range_add]
    simp [List.range_succ, Nat.add_assoc]
  unfold Pgr.empties
  rw [hsp, List.filter_append, List.filter_cons_of_pos hf]
  constructor
  · rw [List.getD_eq_getElem?_getD, List.getElem?_append_right (Nat.le_refl _), Nat.sub_self]; rfl
  · rw [List.length_append, List.length_cons]; omega
theorem empties_lt (P : Pgr) (hp : 1 ≤ P.pages) (k : Nat) : P.empties.getD k 0 < P.pages := by
  rw [List.getD_eq_getElem?_getD]
  cases h : P.empties[k]? with
  | none => exact hp
  | some x =>
    have := List.mem_of_getElem? h
    unfold Pgr.empties at this
    rw [List.mem_filter, List.mem_range] at this
    exact this.1
theorem empties_le (P : Pgr) : P.empties.length ≤ P.pages := by
  have := List.length_filter_le (freeAt P) (List.range P.pages)
  rwa [List.length_range] at this

theorem empty_any (w : World) (q : Nat) : Calls Try.prog 105 #[.pointer (some ⟨q, 0, none⟩)] w fun e w' => e = .returned (.func (.func 129) #[] #[.pointer (some ⟨w.heap.size, 0, none⟩)]) ∧ w' = w.alloc (.cells #[.pointer (some ⟨q, 0, none⟩)] 93) := by
  go_enter Try.func105, Try.ntmps105
  go_wp2
  go_ret
  exact ⟨rfl, rfl⟩

attribute [local go_sem] Oper.semAt_some

def empV (P : Pgr) (k : Nat) : Array Value := #[.int .i64 ((P.empties.getD k 0 : Nat) : Int)]
/-- what its rounds keep: its box, and the pager -/
def KeepsE (B1 q : Nat) (C : Array Value) (W W' : World) : Prop := KeepsAt B1 W W' ∧ (W.heap[q]? = some (.cells C 153 (0, 0)) → W'.heap[q]? = some (.cells C 153 (0, 0)))

set_option maxRecDepth 100000 in
set_option maxHeartbeats 2000000 in
theorem empty_in (F : Fence) (n : Nat) (hf : F.fn 129) (hro : F.round = none) (hn : 1 ≤ n) (l B1 q p : Nat) (vm : Value) (P : Pgr) (hlen : P.is_.length = 4096) (hpg : P.pages ≤ 4096) (J Jx : List Nat → World → Prop)
    (hY : ∀ pre x W, J pre W → pre.length < P.empties.length → YieldAt F (n - 1) Try.prog l (empV P x) W fun e W' =>
      (e = .returned (.bool true) ∧ J (pre ++ [x]) W' ∧ KeepsE B1 q (pgCells p vm P).toArray W W') ∨ (e = .returned (.bool false) ∧ Jx (pre ++ [x]) W'))
    (W : World) (hB1 : W.cell? ⟨B1, 0, none⟩ = some (.pointer (some ⟨q, 0, none⟩))) (hb : W.heap[q]? = some (.cells (pgCells p vm P).toArray 153 (0, 0))) (h0 : J [] W) :
    CallsIn F n Try.prog 129 #[.func (.yield l) #[] #[], .pointer (some ⟨B1, 0, none⟩)] W fun e W' => (∃ v, e = .returned v) ∧
      ((∃ ys, ys = List.range P.empties.length ∧ J ys W') ∨ (∃ pre, (∃ k, k ≤ P.empties.length ∧ pre = List.range k) ∧ Jx pre W')) := by
  have hcell : ∀ (W : World), W.heap[q]? = some (.cells (pgCells p vm P).toArray 153 (0, 0)) → W.cell? ⟨q, 2, none⟩ = some (.int .i64 (P.pages : Int)) ∧ ∀ j, j < 4096 → W.cell? ⟨q, 3 + j, none⟩ = some (byteV (P.is_.getD j 0))   := fun W h => by
    have hc := fun j => cell_of_row W q j _ 153 (0, 0) h
    refine ⟨by rw [hc]; rfl, fun j hj => ?_⟩
    rw [hc, List.getElem?_toArray, pgCells_is hlen j hj, List.getD_eq_getElem?_getD, List.getElem?_eq_getElem (show j < P.is_.length by omega)]
    rfl
  have HCELL := Lib.hid hcell
  have c2 := (hcell W hb).1
  clear hcell
  refine callsIn_of_wp Try.func129 rfl hf ?_ hro
  simp only [Try.ntmps129, List.size_toArray, List.length_cons, List.length_nil, Nat.reduceAdd, Nat.reduceSub, Array.replicate_succ, Array.replicate_zero, List.push_toArray, List.append_toArray, List.nil_append, List.cons_append]
  gi_wp2
  have H0 := Lib.hid h0
  have HBW := Lib.hid hb
  clear c2 h0 hb
  gi_loopw [8] (fun i wr => ∃ k : Nat, k ≤ P.pages ∧ i = .int .i64 (k : Int) ∧ J (List.range ((List.range k).filter (freeAt P)).length) wr ∧ wr.cell? ⟨B1, 0, none⟩ = some (.pointer (some ⟨q, 0, none⟩)) ∧ Hid (wr.heap[q]? = some (.cells (pgCells p vm P).toArray 153 (0, 0))))
    (fun i _ => P.pages - (intOf i).toNat)
  case atStart => exact ⟨0, Nat.zero_le _, rfl, H0.out, hB1, HBW⟩
  case round =>
    obtain ⟨k, hk, rfl, hJs, hc1, hbk⟩ := hrel
    by_cases hlt : k < P.pages
    · have hlt' : (k : Int) < (P.pages : Int) := by omega
      have hk0 : (0 : Int) ≤ (k : Int) := by omega
      have hk4 : (k : Int) < 4096 := by omega
      have hck := (HCELL.out wr hbk.out).2 k (by omega)
      obtain ⟨hg1, hg2⟩ : (freeAt P k = true → P.empties.getD ((List.range k).filter (freeAt P)).length 0 = k) ∧ (freeAt P k = true → ((List.range k).filter (freeAt P)).length < P.empties.length) := ⟨fun h => (empties_at P k hlt h).1, fun h => (empties_at P k hlt h).2⟩
      have hrs : ((List.range (k + 1)).filter (freeAt P)).length = ((List.range k).filter (freeAt P)).length + (if freeAt P k = true then 1 else 0) := by
        rw [List.range_succ, List.filter_append, List.length_append]
        congr 1
        by_cases h : freeAt P k = true
        · rw [if_pos h, List.filter_cons_of_pos h]; rfl
        · rw [if_neg h, List.filter_cons_of_neg h]; rfl
      have hfd : freeAt P k = (P.is_.getD k 0 == 0) := rfl
      have HRS := Lib.hid hrs
      have HFD := Lib.hid hfd
      have HG1 := Lib.hid hg1
      have HG2 := Lib.hid hg2
      clear hrs hfd hg1 hg2
      generalize P.is_.getD k 0 = c at *
      generalize ((List.range k).filter (freeAt P)).length = j at *
      unfold byteV at hck
      by_cases hc0 : c = 0
      · have hfr : freeAt P k = true := by rw [HFD.out, hc0]; rfl
        have hYk := hY (List.range j) j wr hJs (by rw [List.length_range]; exact HG2.out hfr)
        unfold empV at hYk
        rw [HG1.out hfr] at hYk
        obtain ⟨fn, tmps, assign, body, hy, hR⟩ := hYk
        have HRG : Hid (List.range (j + 1) = List.range j ++ [j]) := List.range_succ
        have hcz : ((c.toNat : Int) == 0) = true := by rw [hc0]; rfl
        have HC1 := Lib.hid hc1
        have HFR := Lib.hid hfr
        have HJ := Lib.hid (show j + 1 ≤ P.empties.length from HG2.out hfr)
        clear hc0 hfr
        gi_wp2
        refine hR.mono ?_
        rintro e W3 (⟨rfl, hJ3, hk3, hk4⟩ | ⟨rfl, hJx3⟩)
        · have hB3 : W3.cell? ⟨B1, 0, none⟩ = some (.pointer (some ⟨q, 0, none⟩)) := hk3.trans HC1.out
          have hB4 := Lib.hid (hk4 hbk.out)
          have hrj := HRS.out
          rw [HFR.out] at hrj
          have HRJ : Hid (((List.range (k + 1)).filter (freeAt P)).length = j + 1) := hrj
          clear hk3 hk4 hrj hbk HC1 hc1 hck hB1
          gi_wp2
          go_roundw
          case rel => exact ⟨k + 1, by omega, by go_num, by rw [HRJ.out, HRG.out]; exact hJ3, hB3, hB4⟩
          case measure => simp [intOf]; omega
        · gi_wp2
          refine bodyPost_ret (results_none rfl _ _ _) rfl ?_
          exact ⟨⟨_, rfl⟩, .inr ⟨_, ⟨j + 1, HJ.out, HRG.out.symm⟩, hJx3⟩⟩
      · have hfr : freeAt P k = false := by
          rw [HFD.out]
          exact beq_eq_false_iff_ne.2 hc0
        have hcz : ((c.toNat : Int) == 0) = false := by
          rw [beq_eq_false_iff_ne]
          intro e
          exact hc0 (UInt8.toNat_inj.1 (by show c.toNat = 0; omega))
        have hrj := HRS.out
        rw [hfr] at hrj
        have HRJ : Hid (((List.range (k + 1)).filter (freeAt P)).length = j) := hrj
        clear hc0 hfr hrj
        gi_wp2
        refine ⟨(fun f e => by cases e), ?_⟩
        gi_wp2
        go_roundw
        case rel => exact ⟨k + 1, by omega, by go_num, by rw [HRJ.out]; exact hJs, hc1, hbk⟩
        case measure => simp [intOf]; omega
    · have hke : k = P.pages := by omega
      subst hke
      have hn : ¬ (P.pages : Int) < (P.pages : Int) := by omega
      gi_wp2
      go_end0
      exact ⟨⟨_, rfl⟩, Or.inl hJs⟩

theorem empty_seq (B1 q p : Nat) (vm : Value) (P : Pgr) (hlen : P.is_.length = 4096) (hpg : P.pages ≤ 4096) (w : World) (hB1 : Boxed w B1 93 (.pointer (some ⟨q, 0, none⟩))) (hb : w.heap[q]? = some (.cells (pgCells p vm P).toArray 153 (0, 0))) :
    SeqStopsK Fence.wide 4 Try.prog 129 #[.pointer (some ⟨B1, 0, none⟩)] (empV P) (KeepsE B1 q (pgCells p vm P).toArray) (fun ys => ys = List.range P.empties.length) (fun pre => ∃ k, k ≤ P.empties.length ∧ pre = List.range k) P.empties.length w :=
  fun lp J Jx W hW _ _ hY h0 => empty_in Fence.wide 4 trivial rfl (by decide) lp B1 q p vm P hlen hpg J Jx hY W
    ((hW.cell (p := ⟨B1, 0, none⟩) (lt_of_block hB1)).trans hB1.cell) ((Mod.fresh hW (fun _ => False)).obj hb id) h0

/-- behind some rounds of Free -/
structure FI (w : World) (q : Nat) (C : Array Value) (pre : List Nat) (W : World) : Prop where
  b0 : Boxed W w.heap.size 3 (.int .i64 (pre.length : Int))
  b1 : Boxed W (w.heap.size + 1) 93 (.pointer (some ⟨q, 0, none⟩))
  pg : W.heap[q]? = some (.cells C 153 (0, 0))
  m : Mod (fun _ => False) w W
theorem FI.own {w : World} {q : Nat} {C : Array Value} (hq : q < w.heap.size) : OwnFrom (w.heap.size + 2) (FI w q C) := fun s W W' row h hg hr => by
  have hm : Mod (fun k => some k = row) W W' := Mod.grown hg
  have key : ∀ {k : Nat} {o : Obj}, k < w.heap.size + 2 → W.heap[k]? = some o → W'.heap[k]? = some o := fun {k o} hk ho => hm.obj ho (fun e => by have := (hr k e.symm).1; omega)
  have hm' : Mod (fun _ => False) w W' := h.m.trans hm (fun k hk e => by have := (hr k e.symm).1; omega)
  exact ⟨key (by omega) h.b0, key (by omega) h.b1, key (by omega) h.pg, hm'⟩

set_option maxRecDepth 100000 in
theorem pfree_nil {w : World} : Calls Try.prog 76 #[.pointer none] w fun e w' => e = .returned (.int .i64 0) ∧ w = w' := by
  go_enter Try.func76, Try.ntmps76
  go_wp2
  go_ret
  exact ⟨rfl, rfl⟩

set_option maxHeartbeats 1000000 in
set_option maxRecDepth 100000 in
theorem pfree_any {w : World} {B q p : Nat} {vm : Value} {P : Pgr} (hp : PgV w B q p vm P) (hpg : P.pages ≤ 4096) :
    Calls Try.prog 76 #[.pointer (some ⟨q, 0, none⟩)] w fun e w' => e = .returned (.int .i64 (P.empties.length : Int)) ∧ Mod (fun _ => False) w w' := by
  refine callsIn_wide.1 (callsIn_of_wp_marks (F := Fence.wide) (n := 5) Try.func76 rfl trivial (wpIn_wide.2 ?_) rfl)
  simp only [Try.ntmps76, List.size_toArray, List.length_cons, List.length_nil, Nat.reduceAdd, Nat.reduceSub, Array.replicate_succ, Array.replicate_zero, List.push_toArray, List.append_toArray, List.nil_append, List.cons_append]
  have hq := lt_of_block hp.at_
  have hlen := hp.len
  go_wp2_with (go_at_call 105; refine (empty_any _ _).mono ?_; rintro e w' ⟨rfl, rfl⟩)
  obtain ⟨W2, hW2⟩ : ∃ W2, W2 = (w.alloc (Obj.cells #[Value.int IntKind.i64 0] 3)).alloc (Obj.cells #[.pointer (some ⟨q, 0, none⟩)] 93) := ⟨_, rfl⟩
  rw [← hW2]
  have m2 : Mod (fun _ => False) w W2 := by rw [hW2]; exact (Mod.alloc _ _ _).trans' (Mod.alloc _ _ _)
  have z2 : W2.heap.size = w.heap.size + 2 := by rw [hW2]; simp
  obtain ⟨C, hC⟩ : ∃ C, C = (pgCells p vm P).toArray := ⟨_, rfl⟩
  have hat := hp.at_
  have hI0 : FI w q C [] W2 := by
    refine ⟨?_, ?_, by rw [hC]; exact m2.obj hat id, m2⟩
    · unfold Boxed; rw [hW2]; exact heap_alloc2_old _ _ _
    · unfold Boxed; rw [hW2]; exact heap_alloc2_new _ _ _
  clear hW2 hp hat
  have hsq := empty_seq (w.heap.size + 1) q p vm P hlen hpg W2 hI0.b1 (by rw [← hC]; exact hI0.pg)
  rw [← hC] at hsq
  have hle := empties_le P
  have HI0 := Lib.hid hI0
  clear hI0 hC
  refine (wpIn_wide (n := 5)).1 ?_
  refine wpIn_rangeFunc_ownF (F := Fence.wide) (n := 5) rfl (by decide) rfl trivial (fun _ _ => rfl) hsq (fun h k => ⟨k.1.trans h.1, fun hx => k.2 (h.2 hx)⟩) ?hKb (Below.refl _ _) (fun _ => rfl)
    (FI w q C) (fun _ _ _ => False) (by rw [z2]; exact FI.own hq) (fun _ _ _ _ _ h => h.elim) HI0.out ?a1 ?hassign ?hbody ?hdone ?hstop
  case hassign =>
    intro lp x W K hK
    unfold empV
    gi_wp2
    exact hK
  case hKb =>
    intro W lp o o' hlp ho hno _
    refine ⟨World.cell?_of_block (a := ⟨w.heap.size + 1, 0, none⟩) (World.putObj_heap_other (by show w.heap.size + 1 ≠ lp; omega)), fun hx => ?_⟩
    refine ((Mod.grown (grownBy_putObj' W lp o')).mono (fun k _ e => Option.some.inj e) : Mod (fun k => k = lp) W (W.putObj lp o')).obj hx (fun e => ?_)
    subst e
    rw [ho] at hx
    injection hx with hx
    subst hx
    simp [Obj.isCells] at hno
  case hstop => exact fun _ _ _ _ _ _ h => h.elim
  case hbody =>
    intro lp pre x W hI hlen2
    have x0 := hI.b0.cell
    have f0 := hI.b0.frozen
    have hw : IntKind.i64.wrap ((pre.length : Int) + 1) = (pre.length : Int) + 1 := IntWalk.i64_in _ (by omega)
    have hm : Mod (fun k => k = w.heap.size) W (W.setCell ⟨w.heap.size, 0, none⟩ (.int .i64 ((pre.length : Int) + 1))) := Mod.setCell _ _ _ rfl
    have hend : KeepsOthers W (W.setCell ⟨w.heap.size, 0, none⟩ (.int .i64 ((pre.length : Int) + 1))) ∧ KeepsE (w.heap.size + 1) q C W (W.setCell ⟨w.heap.size, 0, none⟩ (.int .i64 ((pre.length : Int) + 1))) ∧ FI w q C (pre ++ [x]) (W.setCell ⟨w.heap.size, 0, none⟩ (.int .i64 ((pre.length : Int) + 1))) := by
      have b1 : Boxed (W.setCell ⟨w.heap.size, 0, none⟩ (.int .i64 ((pre.length : Int) + 1))) (w.heap.size + 1) 93 (.pointer (some ⟨q, 0, none⟩)) := hm.obj hI.b1 (by omega)
      refine ⟨KeepsOthers.setCell _ _ _, ⟨(Boxed.cell b1).trans (Boxed.cell hI.b1).symm, fun hx => hm.obj hx (by omega)⟩, ?_, b1, hm.obj hI.pg (by omega), hI.m.trans hm (fun k hk e => by omega)⟩
      rw [show (((pre ++ [x]).length : Nat) : Int) = (pre.length : Int) + 1 by simp]
      exact Boxed.set _ hI.b0
    have HEND := Lib.hid hend
    clear hend hm hsq
    gi_wp2
    exact HEND.out
  case hdone =>
    intro D0 xs W hD0 hxs hI hdef
    have x0 := hI.b0.cell
    rw [show xs.length = P.empties.length by rw [hxs, List.length_range]] at x0
    have hm := hI.m
    clear hI HI0 hsq
    go_wp2
    refine ⟨by simp, .inl ⟨_, _, rfl, run_takeDeferred hdef, ?_⟩⟩
    refine ⟨_, results_tmp rfl _ _ _, rfl, hm.trans ((Mod.grown (grownBy_putObj' W D0 _)).mono (fun k _ e => Option.some.inj e) : Mod (fun k => k = D0) W _) (fun k hk e => by omega)⟩
end Go.Proofs.Ytdinnkacilgmmaa
