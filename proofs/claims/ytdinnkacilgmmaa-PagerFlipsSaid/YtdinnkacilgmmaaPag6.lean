/- The pager: Open. -/
import Derived.Test.YtdinnkacilgmmaaPag5
namespace Go.Proofs.Ytdinnkacilgmmaa
open Go.RowKit

theorem pg_tail {h0 h1 h2 : Value} {s : List UInt8} (hs : s.length = 4096) (tl : List Value) (j : Nat) (x : Value) :
    (h0 :: h1 :: h2 :: (s.map byteV ++ tl)).toArray.setIfInBounds (4099 + j) x = (h0 :: h1 :: h2 :: (s.map byteV ++ tl.set j x)).toArray := by
  rw [List.setIfInBounds_toArray, show 4099 + j = (4096 + j) + 1 + 1 + 1 by omega]
  simp only [List.set_cons_succ]
  rw [List.set_append_right _ _ (by rw [List.length_map]; omega), List.length_map, hs, Nat.add_sub_cancel_left]
theorem pg_is {h0 h1 h2 : Value} {s : List UInt8} (tl : List Value) (j : Nat) (hj : j < s.length) (c : UInt8) :
    (h0 :: h1 :: h2 :: (s.map byteV ++ tl)).toArray.setIfInBounds (3 + j) (byteV c) = (h0 :: h1 :: h2 :: ((s.set j c).map byteV ++ tl)).toArray := by
  rw [List.setIfInBounds_toArray, show 3 + j = j + 1 + 1 + 1 by omega]
  simp only [List.set_cons_succ]
  rw [List.set_append_left _ _ (by rw [List.length_map]; omega), List.map_set]
theorem pg_head (h0 h1 h2 x0 x1 x2 : Value) (t : List Value) : (((h0 :: h1 :: h2 :: t).toArray.setIfInBounds 0 x0).setIfInBounds 1 x1).setIfInBounds 2 x2 = (x0 :: x1 :: x2 :: t).toArray := rfl

/-- one cell of the root, or the flag, is written -/
theorem PgV.ne {w : World} {B q p : Nat} {vm : Value} {P : Pgr} (h : PgV w B q p vm P) : vm.ownBlock ≠ some q := fun e => by
  rcases h.mt.2 with ⟨rfl, _⟩ | ⟨g', cap, cur, rfl, _, hgg, _⟩
  · simp [Value.ownBlock] at e
  · simp [Value.ownBlock] at e
    subst e
    rw [h.at_] at hgg
    injection hgg with hgg
    injection hgg with _ h2
    cases h2
theorem PgV.setDead {w : World} {B q p : Nat} {vm : Value} {P : Pgr} (h : PgV w B q p vm P) (b : Bool) : PgV (w.setCell ⟨q, 4103, none⟩ (.bool b)) B q p vm { P with dead := b } :=
  ⟨by rw [setCell_block h.at_]; exact congrArg (fun C => some (Obj.cells C 153 (0, 0))) (pg_tail h.len _ 4 _), h.hq, h.mt.mod (Mod.setCell (F := fun k => k = q) w _ _ rfl) (fun k hk e => h.ne (by rw [hk, e])), h.len⟩
theorem PgV.setIs {w : World} {B q p : Nat} {vm : Value} {P : Pgr} (h : PgV w B q p vm P) (j : Nat) (hj : j < 4096) (c : UInt8) : PgV (w.setCell ⟨q, 3 + j, none⟩ (byteV c)) B q p vm { P with is_ := P.is_.set j c } :=
  ⟨by rw [setCell_block h.at_]; exact congrArg (fun C => some (Obj.cells C 153 (0, 0))) (pg_is _ j (by rw [h.len]; exact hj) c), h.hq, h.mt.mod (Mod.setCell (F := fun k => k = q) w _ _ rfl) (fun k hk e => h.ne (by rw [hk, e])), by
    show (P.is_.set j c).length = 4096
    rw [List.length_set, h.len]⟩
theorem PgV.setRoot {w : World} {B q p : Nat} {vm vm' : Value} {P : Pgr} (h : PgV w B q p vm P) (R : Rt) (ho : OwnB w B vm' R.mt) :
    PgV ((((w.setCell ⟨q, 4099, none⟩ (.int .i64 (R.gen : Int))).setCell ⟨q, 4100, none⟩ (.int .i64 R.page)).setCell ⟨q, 4101, none⟩ (.int .i64 (R.next : Int))).setCell ⟨q, 4102, none⟩ vm') B q p vm' { P with root := R } := by
  have hne : vm'.ownBlock ≠ some q := fun e => by
    rcases ho.2 with ⟨rfl, _⟩ | ⟨g', cap, cur, rfl, _, hgg, _⟩
    · simp [Value.ownBlock] at e
    · simp [Value.ownBlock] at e
      subst e
      rw [h.at_] at hgg
      injection hgg with hgg
      injection hgg with _ h2
      cases h2
  have hM : ∀ (w : World) (j : Nat) (x : Value), Mod (fun k => k = q) w (w.setCell ⟨q, j, none⟩ x) := fun w j x => Mod.setCell _ _ _ rfl
  refine ⟨?_, h.hq, ho.mod ((((hM _ _ _).trans' (hM _ _ _)).trans' (hM _ _ _)).trans' (hM _ _ _)) (fun k hk e => hne (by rw [hk, e])), h.len⟩
  refine (setCell_block (setCell_block (setCell_block (setCell_block h.at_ _) _) _) _).trans ?_
  refine congrArg (fun C => some (Obj.cells C 153 (0, 0))) ?_
  unfold pgCells
  rw [show (4099 : Nat) = 4099 + 0 by rfl, pg_tail h.len, show (4100 : Nat) = 4099 + 1 by rfl, pg_tail h.len, show (4101 : Nat) = 4099 + 2 by rfl, pg_tail h.len, show (4102 : Nat) = 4099 + 3 by rfl, pg_tail h.len]
  rfl

def zeros4096 : List UInt8 := List.replicate 4096 0
theorem zeros4096_length : zeros4096.length = 4096 := List.length_replicate
theorem zero153 : Try.zeroCells153 = (Value.pointer none :: .int .i64 0 :: .int .i64 0 :: (zeros4096.map byteV ++ [.int .i64 0, .int .i64 0, .int .i64 0, .slice none 0 0, .bool false])).toArray := by kernel_rfl
theorem pg_new (p frm : Nat) (pages : Int) (n : Nat) (hn : pages = (n : Int)) : (((((((Try.zeroCells153.setIfInBounds 0 (Value.pointer (some ⟨p, 0, none⟩))).setIfInBounds 1 (.int .i64 (frm : Int))).setIfInBounds 2 (.int .i64 pages)).setIfInBounds 4099 (.int .i64 0)).setIfInBounds 4100 (.int .i64 (-1))).setIfInBounds 4101 (.int .i64 1)).setIfInBounds 4102 (.slice none 0 0)) =
    (pgCells p (.slice none 0 0) ⟨frm, n, zeros4096, Rt.none, false⟩).toArray := by
  subst hn
  rw [zero153, pg_head]
  rw [show (4099 : Nat) = 4099 + 0 by rfl, pg_tail zeros4096_length, show (4100 : Nat) = 4099 + 1 by rfl, pg_tail zeros4096_length, show (4101 : Nat) = 4099 + 2 by rfl, pg_tail zeros4096_length, show (4102 : Nat) = 4099 + 3 by rfl, pg_tail zeros4096_length]
  rfl

def Rt.better (r : Rt) (o : Option Rt) : Rt := match o with | some x => if r.gen < x.gen then x else r | Option.none => r

/-- the root that is found behind i slots -/
def bestAt (pages frm : Nat) (D : Dsk) : Nat → Rt
  | 0 => Rt.none
  | i + 1 => (bestAt pages frm D i).better (rootOf pages (sector D.now (frm + i)))
theorem Rt.none_ok : Rt.none.ok := ⟨by decide, by decide, by decide, by decide⟩
theorem rootOf_ok {pages : Nat} {s : List UInt8} {R : Rt} (hp : pages ≤ 4096) (h : rootOf pages s = some R) : R.ok := by
  unfold rootOf at h
  split at h
  · rename_i c
    obtain ⟨-, h1, h2, h3, h4, h5, h6⟩ := c
    injection h with h
    subst h
    exact ⟨by show unle _ < _; omega, by show -1 ≤ (_ : Int) - 1 ∧ (_ : Int) - 1 ≤ 4096; omega, by show unle _ < _; omega, by show (List.take _ _).length ≤ 100; rw [List.length_take]; omega⟩
  · cases h
theorem bestAt_ok {pages frm : Nat} {D : Dsk} (hp : pages ≤ 4096) : ∀ i, (bestAt pages frm D i).ok
  | 0 => Rt.none_ok
  | i + 1 => by
    rw [bestAt]
    unfold Rt.better
    split
    · rename_i x hx
      split
      · exact rootOf_ok hp hx
      · exact bestAt_ok hp i
    · exact bestAt_ok hp i
def Pgr.opened (frm size : Nat) (D : Dsk) : Pgr := ⟨frm, size - 2, zeros4096, bestAt (size - 2) frm D 2, false⟩
structure OpI (w : World) (p frm size : Nat) (D : Dsk) (i : Nat) (W : World) : Prop where
  pg : ∃ vm, PgV W (w.heap.size + 1) (w.heap.size + 1) p vm ⟨frm, size - 2, zeros4096, bestAt (size - 2) frm D i, false⟩
  m : Mod (fun _ => False) w W
  r : W.heap[w.heap.size]? = some (.cells #[.int .i64 0, .int .i64 0, .int .i64 0, .slice none 0 0] 95 (0, 0))

theorem PgV.mod {F : Nat → Prop} {w w' : World} {B q p : Nat} {vm : Value} {P : Pgr} (h : PgV w B q p vm P) (hm : Mod F w w') (hF : ∀ k, k = q ∨ some k = vm.ownBlock → ¬ F k) : PgV w' B q p vm P :=
  ⟨hm.obj h.at_ (hF q (.inl rfl)), h.hq, h.mt.mod hm (fun k hk => hF k (.inr hk.symm)), h.len⟩
theorem mod4q {F : Nat → Prop} (w : World) (b : Nat) (hF : F b) (x0 x1 x2 x3 : Value) :
    Mod F w ((((w.setCell ⟨b, 4099, none⟩ x0).setCell ⟨b, 4100, none⟩ x1).setCell ⟨b, 4101, none⟩ x2).setCell ⟨b, 4102, none⟩ x3) :=
  (((Mod.setCell w _ _ hF).trans' (Mod.setCell _ _ _ hF)).trans' (Mod.setCell _ _ _ hF)).trans' (Mod.setCell _ _ _ hF)
theorem OpI.mod {w W W' : World} {p frm size : Nat} {D : Dsk} {i : Nat} (h : OpI w p frm size D i W) (hm : Mod (fun _ => False) W W') : OpI w p frm size D i W' := by
  obtain ⟨vm, hp⟩ := h.pg
  exact ⟨⟨vm, hp.mod hm (fun _ _ => id)⟩, h.m.trans' hm, hm.obj h.r id⟩
theorem OpI.skip {w W : World} {p frm size : Nat} {D : Dsk} {i : Nat} (h : OpI w p frm size D i W) (hb : bestAt (size - 2) frm D (i + 1) = bestAt (size - 2) frm D i) : OpI w p frm size D (i + 1) W := by
  obtain ⟨vm, hp⟩ := h.pg
  exact ⟨⟨vm, by rw [hb]; exact hp⟩, h.m, h.r⟩

theorem results_t95t {fn : Func} {p t u : Tmp} {b : Nat} {v x y : Value} (h : fn.results = #[.tmp t, .cell p 95, .tmp u]) (tmps : Array Value) (w : World) (hp : tmps.getD p undef = .pointer (some ⟨b, 0, none⟩)) (hc : RtCell w b v) (ht : tmps.getD t undef = x) (hu : tmps.getD u undef = y) :
    (results fn tmps).run Try.prog w = .ok (.tuple #[x, v, y]) w := by
  obtain ⟨x0, x1, x2, x3, rfl, h0, h1, h2, h3⟩ := hc
  simp only [results, h]
  have hp' : tmps[p]?.getD undef = .pointer (some ⟨b, 0, none⟩) := by simpa using hp
  have ht' : tmps[t]?.getD undef = x := by simpa using ht
  have hu' : tmps[u]?.getD undef = y := by simpa using hu
  simp [hp', ht', hu', asAddr, go_sem, h0, h1, h2, h3]

set_option maxHeartbeats 2000000 in
set_option maxRecDepth 100000 in
theorem popen_ok {w : World} {B p : Nat} {D : Dsk} {F : Nat → Prop} (hd : DiskAt w B p D F) (frm size : Nat) (hf : frm ≤ D.N) (hs3 : 3 ≤ size) (hsz : size ≤ D.N - frm) :
    Calls Try.prog 65 #[.pointer (some ⟨p, 0, none⟩), .int .i64 (frm : Int), .int .i64 (size : Int)] w fun e w' => ∃ q vr vm, e = .returned (.tuple #[.pointer (some ⟨q, 0, none⟩), rootV (Pgr.opened frm size D).root vr, .int .i64 0]) ∧
      PgV w' w.heap.size q p vm (Pgr.opened frm size D) ∧ OwnB w' w.heap.size vr (Pgr.opened frm size D).root.mt ∧ Mod (fun _ => False) w w' ∧ vr.ownBlock ≠ some q ∧ (∀ k, vm.ownBlock = some k → vr.ownBlock ≠ some k) := by
  obtain ⟨Ro, hRo⟩ : ∃ Ro, Ro = (Pgr.opened frm size D).root := ⟨_, rfl⟩
  obtain ⟨Po, hPo⟩ : ∃ Po, Po = Pgr.opened frm size D := ⟨_, rfl⟩
  rw [← hRo, ← hPo]
  have HRO := Lib.hid hRo
  have HPO := Lib.hid hPo
  clear hRo hPo
  have KZ : ∀ w', Mod (fun _ => False) w w' → Calls Try.prog 52 #[.pointer (some ⟨p, 0, none⟩)] w' fun e w'' => e = .returned (.int .i64 (D.N : Int)) ∧ w' = w'' := fun w' hm => (hd.mod hm (fun _ _ => id)).size
  have m1 : Mod (fun _ => False) w (w.alloc (.cells #[.int .i64 0, .int .i64 0, .int .i64 0, .slice none 0 0] 95)) := Mod.alloc _ _ _
  have top := hd.wf.top
  have a1 : ¬ (frm : Int) < 0 := by omega
  have a2 : ¬ (D.N : Int) < (frm : Int) := by omega
  have a3 : ¬ (size : Int) < 3 := by omega
  have a4 : ¬ ((D.N : Int) - (frm : Int) < (size : Int)) := by omega
  have w1 : IntKind.i64.wrap ((D.N : Int) - (frm : Int)) = (D.N : Int) - (frm : Int) := IntWalk.i64_in _ (by omega)
  have w2 : IntKind.i64.wrap ((size : Int) - 2) = (size : Int) - 2 := IntWalk.i64_in _ (by omega)
  replace KZ := Lib.hid KZ
  have M1 := Lib.hid m1
  clear m1
  go_enter Try.func65, Try.ntmps65
  go_wp2_with (first
    | (go_at_call 52; refine (KZ.out _ (by first | exact M1.out)).mono ?_; rintro e wb ⟨rfl, rfl⟩))
  rw [pg_new p frm _ (size - 2) (by omega)]
  obtain ⟨W2, hW2⟩ : ∃ W2, W2 = ((w.alloc (.cells #[.int .i64 0, .int .i64 0, .int .i64 0, .slice none 0 0] 95)).alloc (.cells (pgCells p (.slice none 0 0) ⟨frm, size - 2, zeros4096, Rt.none, false⟩).toArray 153)) := ⟨_, rfl⟩
  rw [← hW2]
  have I0 : OpI w p frm size D 0 W2 := by
    refine ⟨⟨.slice none 0 0, ?_, Nat.le_refl _, OwnB.nil _ _, zeros4096_length⟩, ?_, ?_⟩
    · rw [hW2]; exact heap_alloc2_new _ _ _
    · rw [hW2]; exact (Mod.alloc _ _ _).trans' (Mod.alloc _ _ _)
    · rw [hW2]; exact heap_alloc2_old _ _ _
  clear hW2
  generalize (pgCells p (.slice none 0 0) ⟨frm, size - 2, zeros4096, Rt.none, false⟩).toArray = CC
  simp only [show decide ((frm : Int) < 0) = false from decide_eq_false (by omega), show decide (D.N < frm) = false from decide_eq_false (by omega), show decide ((size : Int) < 3) = false from decide_eq_false (by omega), show decide ((D.N : Int) - (frm : Int) < (size : Int)) = false from decide_eq_false (by omega), Bool.or_false]
  have HD := Lib.hid hd
  clear hd a1 a2 a3 a4 w1 w2 KZ M1
  go_loopw [45] (fun v45 wr => ∃ i : Nat, i ≤ 2 ∧ v45 = .int .i64 (i : Int) ∧ OpI w p frm size D i wr) (fun v45 _ => 2 - (intOf v45).toNat)
  case atStart => exact ⟨0, by omega, rfl, I0⟩
  case round =>
    obtain ⟨i, hi, rfl, I⟩ := hrel
    by_cases hlt : i < 2
    · have hlt' : (i : Int) < 2 := by omega
      have w1 : IntKind.i64.wrap ((frm : Int) + (i : Int)) = (frm : Int) + (i : Int) := IntWalk.i64_in _ (by omega)
      obtain ⟨vm, hp⟩ := I.pg
      have hn : frm + i < D.N := by omega
      have hpg : size - 2 ≤ 4096 := by omega
      have KS := readSlot_any hp (HD.out.mod I.m (fun _ _ => id)) (frm + i) hn hpg
      rw [show (((frm + i : Nat)) : Int) = (frm : Int) + (i : Int) by omega] at KS
      replace KS := Lib.hid KS
      have II := Lib.hid I
      clear I I0 hp
      go_wp2_with fail
      refine KS.out.mono ?_
      rintro e w3 ⟨hS, m3⟩
      have I3 := II.out.mod m3
      rcases hS with ⟨hno, rfl⟩ | ⟨R, v, hsome, rfl, ho⟩
      · unfold zeroRt
        have I4 := I3.mod (Mod.alloc _ _ (.cells #[.int .i64 0, .int .i64 0, .int .i64 0, .slice none 0 0] 95))
        have I5 := (I4.mod (Mod.drew _ _)).skip (by rw [bestAt, hno]; rfl)
        have HI := Lib.hid I5
        clear I5 I4 I3 hno m3 KS II
        go_upto_region 11 with fail
        refine wp_region_held_drew (S := fun _ => True) (by kernel_rfl) (trivial) (fun hHeld => ?_)
        refine wpAnyH_take (i := 0) (oi := { dst := some 56, op := Op.move (Operand.tmp 13), type := 4, pos := "pager.go:121", after := #[], guard := none }) (v := ?_) rfl (by kernel_rfl) (by kernel_rfl) (by kernel_rfl) (fun _ _ _ h => h) (Or.inl ⟨by rfl, ?_⟩) (by assumption) ?_
        rotate_left
        · (intro w hSw; (try dsimp only at hSw); go_simp; try with_reducible rfl)
        simp only [Act.put, List.setIfInBounds_toArray, List.set_cons_zero, List.set_cons_succ]
        refine wpAnyH_take (i := 1) (oi := { dst := some 57, op := Op.move (Operand.tmp 56), type := 4, pos := "pager.go:121", after := #[{ on := 0, ground := Ground.data }], guard := none }) (v := ?_) rfl (by kernel_rfl) (by kernel_rfl) (by kernel_rfl) (fun _ _ _ h => h) (Or.inl ⟨by rfl, ?_⟩) (by assumption) ?_
        rotate_left
        · (intro w hSw; (try dsimp only at hSw); go_simp; try with_reducible rfl)
        simp only [Act.put, List.setIfInBounds_toArray, List.set_cons_zero, List.set_cons_succ]
        refine wpAnyH_take (i := 2) (oi := { dst := some 58, op := Op.fieldAddr 95 (Operand.tmp 12) 0, type := 0, pos := "pager.go:121", after := #[{ on := 1, ground := Ground.guard }], guard := some (1, true) }) (v := undef) rfl (by kernel_rfl) (by kernel_rfl) (by kernel_rfl) (fun _ _ _ h => h) (Or.inr ⟨by rfl, rfl⟩) (by assumption) ?_
        simp only [Act.put, List.setIfInBounds_toArray, List.set_cons_zero, List.set_cons_succ]
        refine wpAnyH_take (i := 3) (oi := { dst := some 59, op := Op.load 2 (Operand.tmp 58), type := 2, pos := "pager.go:121", after := #[{ on := 2, ground := Ground.data }, { on := 1, ground := Ground.guard }], guard := some (1, true) }) (v := undef) rfl (by kernel_rfl) (by kernel_rfl) (by kernel_rfl) (fun _ _ _ h => h) (Or.inr ⟨by rfl, rfl⟩) (by assumption) ?_
        simp only [Act.put, List.setIfInBounds_toArray, List.set_cons_zero, List.set_cons_succ]
        refine wpAnyH_take (i := 4) (oi := { dst := some 60, op := Op.move (Operand.tmp 10), type := 93, pos := "pager.go:121", after := #[{ on := 1, ground := Ground.guard }], guard := some (1, true) }) (v := undef) rfl (by kernel_rfl) (by kernel_rfl) (by kernel_rfl) (fun _ _ _ h => h) (Or.inr ⟨by rfl, rfl⟩) (by assumption) ?_
        simp only [Act.put, List.setIfInBounds_toArray, List.set_cons_zero, List.set_cons_succ]
        refine wpAnyH_take (i := 5) (oi := { dst := some 61, op := Op.nilCheck (Operand.tmp 60), type := 0, pos := "pager.go:121", after := #[{ on := 4, ground := Ground.data }, { on := 1, ground := Ground.guard }], guard := some (1, true) }) (v := undef) rfl (by kernel_rfl) (by kernel_rfl) (by kernel_rfl) (fun _ _ _ h => h) (Or.inr ⟨by rfl, rfl⟩) (by assumption) ?_
        simp only [Act.put, List.setIfInBounds_toArray, List.set_cons_zero, List.set_cons_succ]
        refine wpAnyH_take (i := 6) (oi := { dst := some 62, op := Op.fieldAddr 153 (Operand.tmp 61) 4, type := 0, pos := "pager.go:121", after := #[{ on := 5, ground := Ground.data }, { on := 1, ground := Ground.guard }], guard := some (1, true) }) (v := undef) rfl (by kernel_rfl) (by kernel_rfl) (by kernel_rfl) (fun _ _ _ h => h) (Or.inr ⟨by rfl, rfl⟩) (by assumption) ?_
        simp only [Act.put, List.setIfInBounds_toArray, List.set_cons_zero, List.set_cons_succ]
        refine wpAnyH_take (i := 7) (oi := { dst := some 63, op := Op.fieldAddr 95 (Operand.tmp 62) 0, type := 0, pos := "pager.go:121", after := #[{ on := 6, ground := Ground.data }, { on := 1, ground := Ground.guard }], guard := some (1, true) }) (v := undef) rfl (by kernel_rfl) (by kernel_rfl) (by kernel_rfl) (fun _ _ _ h => h) (Or.inr ⟨by rfl, rfl⟩) (by assumption) ?_
        simp only [Act.put, List.setIfInBounds_toArray, List.set_cons_zero, List.set_cons_succ]
        refine wpAnyH_take (i := 8) (oi := { dst := some 64, op := Op.load 2 (Operand.tmp 63), type := 2, pos := "pager.go:121", after := #[{ on := 7, ground := Ground.data }, { on := 1, ground := Ground.guard }], guard := some (1, true) }) (v := undef) rfl (by kernel_rfl) (by kernel_rfl) (by kernel_rfl) (fun _ _ _ h => h) (Or.inr ⟨by rfl, rfl⟩) (by assumption) ?_
        simp only [Act.put, List.setIfInBounds_toArray, List.set_cons_zero, List.set_cons_succ]
        refine wpAnyH_take (i := 9) (oi := { dst := some 65, op := Op.binOp BinOp.gtr 2 (Operand.tmp 59) (Operand.tmp 64) 2, type := 4, pos := "pager.go:121", after := #[{ on := 3, ground := Ground.data }, { on := 8, ground := Ground.data }, { on := 1, ground := Ground.guard }], guard := some (1, true) }) (v := undef) rfl (by kernel_rfl) (by kernel_rfl) (by kernel_rfl) (fun _ _ _ h => h) (Or.inr ⟨by rfl, rfl⟩) (by assumption) ?_
        simp only [Act.put, List.setIfInBounds_toArray, List.set_cons_zero, List.set_cons_succ]
        refine wpAnyH_take (i := 10) (oi := { dst := some 66, op := Op.pick (Operand.tmp 57) (Operand.tmp 65) (Operand.const (Value.bool false)), type := 4, pos := "pager.go:121", after := #[{ on := 1, ground := Ground.data }, { on := 9, ground := Ground.data }], guard := none }) (v := ?_) rfl (by kernel_rfl) (by kernel_rfl) (by kernel_rfl) (fun _ _ _ h => h) (Or.inl ⟨by rfl, ?_⟩) (by assumption) ?_
        rotate_left
        · (intro w hSw; (try dsimp only at hSw); go_simp; try with_reducible rfl)
        simp only [Act.put, List.setIfInBounds_toArray, List.set_cons_zero, List.set_cons_succ]
        refine wpAnyH_done (by kernel_rfl) ?_ _
        go_wp2_with fail
        go_roundw
        case rel => exact ⟨i + 1, by omega, by go_num, HI.out⟩
        case measure => simp [intOf]; omega
      · obtain ⟨av, cv, rfl, -, -, -⟩ := ho.shape
        unfold rootV
        obtain ⟨vm3, hp3⟩ := I3.pg
        obtain ⟨W4, hW4⟩ : ∃ W4, W4 = w3.alloc (.cells #[.int .i64 (R.gen : Int), .int .i64 R.page, .int .i64 (R.next : Int), .slice av R.mt.length cv] 95) := ⟨_, rfl⟩
        have m4 : Mod (fun _ => False) w3 W4 := by rw [hW4]; exact Mod.alloc _ _ _
        have k4 : W4.heap[w3.heap.size]? = some (.cells #[.int .i64 (R.gen : Int), .int .i64 R.page, .int .i64 (R.next : Int), .slice av R.mt.length cv] 95 (0, 0)) := by rw [hW4]; exact heap_alloc_new _ _
        have hmw := m4.trans' (Mod.drew (fun _ => False) W4)
        have I4 := I3.mod hmw
        have hp4 := hp3.mod hmw (fun _ _ => id)
        have kd := (Mod.drew (fun _ => False) W4).obj k4 id
        have ho4 := (ho.mod hmw (fun _ _ => id)).weaken (B := w.heap.size + 1) (by have := lt_of_block II.out.r; omega)
        obtain ⟨b3, hb3⟩ : ∃ b3, b3 = w3.heap.size := ⟨_, rfl⟩
        rw [← hb3] at k4 kd
        have hg := hp4.tail.1
        obtain ⟨rg, hrg⟩ : ∃ rg, rg = (bestAt (size - 2) frm D i).gen := ⟨_, rfl⟩
        have hg' : W4.cell? ⟨w.heap.size + 1, 4099, none⟩ = some (.int .i64 (rg : Int)) := by rw [hrg]; exact hg
        have hbest : bestAt (size - 2) frm D (i + 1) = if rg < R.gen then R else bestAt (size - 2) frm D i := by
          rw [bestAt, hsome, hrg]; rfl
        have q0 : W4.cell? ⟨b3, 0, none⟩ = some (.int .i64 (R.gen : Int)) := cell_of_row W4 b3 0 _ 95 (0, 0) k4
        have HW4 := Lib.hid hW4
        have HB3 := Lib.hid hb3
        have KD := Lib.hid kd
        have HP4 := Lib.hid hp4
        have HO4 := Lib.hid ho4
        have HI4 := Lib.hid I4
        have HBEST := Lib.hid hbest
        clear hW4 hb3 kd k4 hp4 ho4 I4 hbest hsome hp3 ho I3 m3 m4 hmw KS II hg hrg
        go_upto_region 11 with fail
        rw [← HW4.out, ← HB3.out]
        by_cases hlt2 : rg < R.gen
        · have hd : decide ((rg : Int) < (R.gen : Int)) = true := decide_eq_true (by omega)
          have HBT := Lib.hid (HBEST.out.trans (if_pos hlt2))
          go_region_held3 (fun w' => w'.cell? ⟨b3, 0, none⟩ = some (.int .i64 (R.gen : Int)) ∧ w'.cell? ⟨w.heap.size + 1, 4099, none⟩ = some (.int .i64 (rg : Int))) (refine ⟨?_, ?_⟩ <;> simpa using (by assumption)) (fail)
          have hcb := fun j => cell_of_row W4.drew b3 j _ 95 (0, 0) KD.out
          have d0 := hcb 0
          have d1 := hcb 1
          have d2 := hcb 2
          have d3 := hcb 3
          simp only [List.getElem?_toArray, List.getElem?_cons_zero, List.getElem?_cons_succ] at d0 d1 d2 d3
          obtain ⟨t0, t1, t2, t3, -⟩ := HP4.out.tail
          have g0 := thaw_of (i := 4099) HP4.out.at_
          have g1 := thaw_of (i := 4100) HP4.out.at_
          have g2 := thaw_of (i := 4101) HP4.out.at_
          have g3 := thaw_of (i := 4102) HP4.out.at_
          have hR' := HP4.out.setRoot R HO4.out
          have hmq := mod4q (F := fun k => k = w.heap.size + 1) W4.drew (w.heap.size + 1) rfl (.int .i64 (R.gen : Int)) (.int .i64 R.page) (.int .i64 (R.next : Int)) (.slice av R.mt.length cv)
          have I5 : OpI w p frm size D (i + 1) _ := ⟨⟨_, by rw [HBT.out]; exact hR'⟩, HI4.out.m.trans hmq (fun k hk e => by omega), hmq.obj HI4.out.r (by show ¬ w.heap.size = w.heap.size + 1; omega)⟩
          have HI5 := Lib.hid I5
          clear hcb hR' hmq I5 hd hlt2 q0 hg'
          generalize W4.drew = W5 at *
          go_wp2_with fail
          go_roundw
          case rel => exact ⟨i + 1, by omega, by go_num, HI5.out⟩
          case measure => simp [intOf]; omega
        · have hd : decide ((rg : Int) < (R.gen : Int)) = false := decide_eq_false (by omega)
          have HBT := Lib.hid (HBEST.out.trans (if_neg hlt2))
          go_region_held3 (fun w' => w'.cell? ⟨b3, 0, none⟩ = some (.int .i64 (R.gen : Int)) ∧ w'.cell? ⟨w.heap.size + 1, 4099, none⟩ = some (.int .i64 (rg : Int))) (refine ⟨?_, ?_⟩ <;> simpa using (by assumption)) (fail)
          clear hd hlt2
          go_wp2_with fail
          go_roundw
          case rel => exact ⟨i + 1, by omega, by go_num, HI4.out.skip HBT.out⟩
          case measure => simp [intOf]; omega
    · obtain rfl : i = 2 := by omega
      obtain ⟨vm, hp⟩ := I.pg
      have hRe : bestAt (size - 2) frm D 2 = Ro := HRO.out.symm
      have hPe : (⟨frm, size - 2, zeros4096, bestAt (size - 2) frm D 2, false⟩ : Pgr) = Po := HPO.out.symm
      rw [hPe] at hp
      have hPr : Po.root = Ro := by rw [HPO.out, HRO.out]
      obtain ⟨t0, t1, t2, t3, -⟩ := hp.tail
      have hmt := hp.mt
      rw [hPr] at t0 t1 t2 hmt
      obtain ⟨am, cm, rfl, hlem, hcm, hbm⟩ := hmt.shape
      have ham : am = none → Ro.mt = [] ∧ cm = 0 := fun e => by
        subst e
        rcases hmt.2 with ⟨h1, h2⟩ | ⟨g', cap, cur, h1, -⟩
        · injection h1 with _ h3 h4; exact ⟨List.eq_nil_of_length_eq_zero h3, h4⟩
        · injection h1 with h3; cases h3
      have KO : ∀ w', wr = w' → Calls Try.prog 104 #[rootV Ro (.slice am Ro.mt.length cm)] w' fun e w' => ∃ v, e = .returned (rootV Ro v) ∧ OwnB w' wr.heap.size v Ro.mt ∧ Mod (fun _ => False) wr w' ∧ (∀ k, v.ownBlock = some k → wr.heap.size ≤ k) := fun w' e => by
        subst e
        exact own_any Ro am _ cm rfl (by rw [← hRe]; have := (bestAt_ok (frm := frm) (D := D) (show size - 2 ≤ 4096 by omega) 2).mt; omega) ham hbm wr.heap.size (Nat.le_refl _)
      have HM := Lib.hid I.m
      have HRR := Lib.hid I.r
      have HP := Lib.hid hp
      have HPR := Lib.hid hPr
      replace KO := Lib.hid KO
      clear I I0 hp hRe hPe hPr hmt hbm ham hlt
      unfold rootV at KO
      go_wp2_with fail
      refine (KO.out _ rfl).mono ?_
      rintro e w5 ⟨v, rfl, ho5, m5, hv5⟩
      obtain ⟨av, cv, rfl, -, -, -⟩ := ho5.shape
      have kr := m5.obj HRR.out id
      have hcb := fun j => cell_of_row w5 w.heap.size j _ 95 (0, 0) kr
      have d0 := hcb 0
      have d1 := hcb 1
      have d2 := hcb 2
      have d3 := hcb 3
      simp only [List.getElem?_toArray, List.getElem?_cons_zero, List.getElem?_cons_succ] at d0 d1 d2 d3
      have g0 := thaw_of (i := 0) kr
      have g1 := thaw_of (i := 1) kr
      have g2 := thaw_of (i := 2) kr
      have g3 := thaw_of (i := 3) kr
      have hwl := lt_of_block HRR.out
      have hwq := lt_of_block HP.out.at_
      have hml : ∀ k, (Value.slice am Ro.mt.length cm).ownBlock = some k → w.heap.size + 1 ≤ k ∧ k < wr.heap.size := fun k hk => World.ownsRow.lt HP.out.mt k hk
      have HML := Lib.hid hml
      have KR := Lib.hid kr
      have HO5 := Lib.hid ho5
      have HV5 := Lib.hid hv5
      have M5 := Lib.hid m5
      have HP5 := Lib.hid (HP.out.mod m5 (fun _ _ => id))
      clear hcb kr ho5 hv5 m5 hml t0 t1 t2 t3
      go_wp2
      have k5 := set4 KR.out (.int .i64 (Ro.gen : Int)) (.int .i64 Ro.page) (.int .i64 (Ro.next : Int)) (.slice av Ro.mt.length cv)
      have m6 := mod4 (F := fun k => k = w.heap.size) w5 w.heap.size rfl (.int .i64 (Ro.gen : Int)) (.int .i64 Ro.page) (.int .i64 (Ro.next : Int)) (.slice av Ro.mt.length cv)
      refine bodyPost_ret (results_t95t rfl _ _ rfl (RtCell.of k5) rfl rfl) rfl ⟨w.heap.size + 1, _, .slice am Ro.mt.length cm, rfl, ?_, ?_, ?_, ?_, ?_⟩
      · have h6 := HP5.out.mod m6 (fun k hk e => by
          rcases hk with rfl | hk
          · omega
          · have := (HML.out k hk.symm).1; omega)
        exact ⟨h6.at_, by omega, h6.mt.weaken (by omega), h6.len⟩
      · exact (HO5.out.mod m6 (fun k hk e => by have := HV5.out k hk; omega)).weaken (by omega)
      · exact (HM.out.trans' M5.out).trans m6 (fun k hk e => by omega)
      · intro e
        have := HV5.out _ e
        omega
      · intro k hk e
        have := HV5.out _ e
        have := (HML.out k hk).2
        omega

set_option maxRecDepth 100000 in
theorem popen_nil {w : World} (a b : Int) : Calls Try.prog 65 #[.pointer none, .int .i64 a, .int .i64 b] w fun e w' => e = .returned (.tuple #[.pointer none, zeroRt, .int .i64 2]) ∧ Mod (fun _ => False) w w' := by
  unfold zeroRt
  go_enter Try.func65, Try.ntmps65
  go_wp2
  refine bodyPost_ret (results_t95t rfl _ _ rfl (RtCell.of (heap_alloc_new _ _)) rfl rfl) rfl ⟨rfl, Mod.alloc _ _ _⟩
set_option maxHeartbeats 1000000 in
set_option maxRecDepth 100000 in
theorem popen_bad {w : World} {B p : Nat} {D : Dsk} {F : Nat → Prop} (hd : DiskAt w B p D F) (a b : Int) (hbad : a < 0 ∨ (D.N : Int) < a ∨ b < 3 ∨ (D.N : Int) - a < b) :
    Calls Try.prog 65 #[.pointer (some ⟨p, 0, none⟩), .int .i64 a, .int .i64 b] w fun e w' => e = .returned (.tuple #[.pointer none, zeroRt, .int .i64 1]) ∧ Mod (fun _ => False) w w' := by
  unfold zeroRt
  have KZ : ∀ w', Mod (fun _ => False) w w' → Calls Try.prog 52 #[.pointer (some ⟨p, 0, none⟩)] w' fun e w'' => e = .returned (.int .i64 (D.N : Int)) ∧ w' = w'' := fun w' hm => (hd.mod hm (fun _ _ => id)).size
  have m1 : Mod (fun _ => False) w (w.alloc (.cells #[.int .i64 0, .int .i64 0, .int .i64 0, .slice none 0 0] 95)) := Mod.alloc _ _ _
  have top := hd.wf.top
  have hcs : a < 0 ∨ (¬ a < 0 ∧ (D.N : Int) < a) ∨ (¬ a < 0 ∧ ¬ (D.N : Int) < a ∧ b < 3) ∨ (¬ a < 0 ∧ ¬ (D.N : Int) < a ∧ ¬ b < 3 ∧ (D.N : Int) - a < b) := by omega
  replace KZ := Lib.hid KZ
  have M1 := Lib.hid m1
  clear m1 hbad
  rcases hcs with h1 | ⟨h1, h2⟩ | ⟨h1, h2, h3⟩ | ⟨h1, h2, h3, h4⟩
  · go_enter Try.func65, Try.ntmps65
    go_wp2_with (first
      | (go_at_call 52; refine (KZ.out _ (by first | exact M1.out)).mono ?_; rintro e wb ⟨rfl, rfl⟩))
    refine bodyPost_ret (results_t95t rfl _ _ rfl (RtCell.of (heap_alloc_new _ _)) rfl rfl) rfl ⟨rfl, Mod.alloc _ _ _⟩
  · go_enter Try.func65, Try.ntmps65
    go_wp2_with (first
      | (go_at_call 52; refine (KZ.out _ (by first | exact M1.out)).mono ?_; rintro e wb ⟨rfl, rfl⟩))
    refine bodyPost_ret (results_t95t rfl _ _ rfl (RtCell.of (heap_alloc_new _ _)) rfl rfl) rfl ⟨rfl, Mod.alloc _ _ _⟩
  · go_enter Try.func65, Try.ntmps65
    go_wp2_with (first
      | (go_at_call 52; refine (KZ.out _ (by first | exact M1.out)).mono ?_; rintro e wb ⟨rfl, rfl⟩))
    refine bodyPost_ret (results_t95t rfl _ _ rfl (RtCell.of (heap_alloc_new _ _)) rfl rfl) rfl ⟨rfl, Mod.alloc _ _ _⟩
  · have w1 : IntKind.i64.wrap ((D.N : Int) - a) = (D.N : Int) - a := IntWalk.i64_in _ (by omega)
    go_enter Try.func65, Try.ntmps65
    go_wp2_with (first
      | (go_at_call 52; refine (KZ.out _ (by first | exact M1.out)).mono ?_; rintro e wb ⟨rfl, rfl⟩))
    refine bodyPost_ret (results_t95t rfl _ _ rfl (RtCell.of (heap_alloc_new _ _)) rfl rfl) rfl ⟨rfl, Mod.alloc _ _ _⟩
end Go.Proofs.Ytdinnkacilgmmaa
