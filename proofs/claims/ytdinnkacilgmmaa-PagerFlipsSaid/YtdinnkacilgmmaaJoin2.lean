/- Join itself. -/
import Derived.Test.YtdinnkacilgmmaaJoin
namespace Go.Proofs.Ytdinnkacilgmmaa
open Go.RowKit

attribute [local go_sem] Oper.semAt_some

theorem product_in (F : Fence) (n : Nat) (hF : F = Fence.wide) (a b : BitVec 32) (w : World) :
    CallsIn F n Try.prog 83 #[.int .u32 a.toNat, .int .u32 b.toNat] w fun e w' => e = .returned (.int .u32 (pr 32 a b).toNat) ∧ w = w' := by
  subst hF; exact callsIn_wide.2 (product_any a b w)

theorem ones_in (n : Nat) (N : Nat) (w : World) :
    CallsIn Fence.wide n Try.prog 82 #[.int .i64 (N : Int)] w fun e w' => e = .returned (.func (.func 121) #[] #[.pointer (some ⟨w.heap.size, 0, none⟩)]) ∧ w' = w.alloc (.cells #[.int .i64 (N : Int)] 2) := by
  refine callsIn_of_wp Try.func82 rfl trivial ?_ rfl
  simp only [Try.ntmps82, List.size_toArray, List.length_cons, List.length_nil, Nat.reduceAdd, Nat.reduceSub, Array.replicate_succ, Array.replicate_zero, List.push_toArray, List.append_toArray, List.nil_append, List.cons_append]
  gi_wp2
  go_ret
  exact ⟨rfl, rfl⟩

theorem ones_any (N : Nat) (w : World) :
    Calls Try.prog 82 #[.int .i64 (N : Int)] w fun e w' => e = .returned (.func (.func 121) #[] #[.pointer (some ⟨w.heap.size, 0, none⟩)]) ∧ w' = w.alloc (.cells #[.int .i64 (N : Int)] 2) :=
  callsIn_wide.1 (ones_in 0 N w)

/-- behind some powers: what the boxes hold -/
structure JI (w : World) (a : BitVec 32) (N : Nat) (pre : List (Fin 64)) (W : World) : Prop where
  c0 : W.heap[w.heap.size]? = some (.cells #[.int .u32 (jA a (pre.map (·.val))).toNat] 23 (0, 0))
  c1 : W.heap[w.heap.size + 1]? = some (.cells #[.int .i64 (jAt (pre.map (·.val)))] 3 (0, 0))
  c2 : W.heap[w.heap.size + 1 + 1]? = some (.cells #[.int .u32 (pw (jAt (pre.map (·.val)))).toNat] 23 (0, 0))
  c3 : W.heap[w.heap.size + 1 + 1 + 1]? = some (.cells #[.int .i64 (N : Int)] 2 (0, 0))
  bel : Below w.heap.size w W

theorem JI.own (w : World) (a : BitVec 32) (N : Nat) : OwnFrom (w.heap.size + 4) (JI w a N) := fun s W W' row h hg hr => by
  have key : ∀ {k : Nat} {o : Obj}, k < w.heap.size + 4 → W.heap[k]? = some o → W'.heap[k]? = some o := fun {k o} hk ho =>
    (hg.block k (lt_of_block ho) (fun e => by have := (hr k e.symm).1; omega)).trans ho
  exact ⟨key (by omega) h.c0, key (by omega) h.c1, key (by omega) h.c2, key (by omega) h.c3, h.bel.grown hg h.bel.size (fun k e => by have := (hr k e).1; omega)⟩

/-- stopped: nothing is left of the first sum -/
structure JX (w : World) (a : BitVec 32) (N : Nat) (c : Code) (pre : List (Fin 64)) (W : World) : Prop where
  zero : c = .exit 0 ∧ jA a ((pre.dropLast).map (·.val)) = 0#32
  c0 : W.heap[w.heap.size]? = some (.cells #[.int .u32 ((0#32 : BitVec 32).toNat : Int)] 23 (0, 0))
  bel : Below w.heap.size w W

theorem JX.own (w : World) (a : BitVec 32) (N : Nat) (c : Code) : OwnFrom (w.heap.size + 4) (JX w a N c) := fun s W W' row h hg hr => by
  have key : ∀ {k : Nat} {o : Obj}, k < w.heap.size + 4 → W.heap[k]? = some o → W'.heap[k]? = some o := fun {k o} hk ho =>
    (hg.block k (lt_of_block ho) (fun e => by have := (hr k e.symm).1; omega)).trans ho
  exact ⟨h.zero, key (by omega) h.c0, h.bel.grown hg h.bel.size (fun k e => by have := (hr k e).1; omega)⟩

/-- the loop's frame at an element -/
abbrev joinAct (w : World) (a b : BitVec 32) (N : Nat) (x : Fin 64) : Act :=
  { tmps := #[Value.int IntKind.u32 (a.toNat : Int), Value.int IntKind.u32 (b.toNat : Int), Value.int IntKind.i64 (N : Int),
          Value.pointer (some { block := w.heap.size, off := 0 }), undef, undef, Value.int IntKind.u32 0,
          Value.int IntKind.i64 0, Value.pointer (some { block := w.heap.size + 1, off := 0 }),
          Value.pointer (some { block := w.heap.size + 1 + 1, off := 0 }), .int .i64 ((x.val : Nat) : Int), Value.int IntKind.i64 (N : Int),
          Value.bool (decide ((N : Int) < 0)), Value.bool (decide ((N : Int) < 0)), Value.int IntKind.i64 (N : Int),
          Value.bool (decide (1099511627776 < (N : Int))), Value.bool (decide ((N : Int) < 0) || decide (1099511627776 < (N : Int))),
          Value.int IntKind.i64 (N : Int),
          Value.func (Fn.func 121) #[] #[Value.pointer (some { block := w.heap.size + 1 + 1 + 1, off := 0 })], .int .i64 ((x.val : Nat) : Int),
          undef, undef, undef, undef, undef, undef, undef, undef, undef, undef, undef, undef, undef, undef, undef,
          undef], defers := [] }

/-- within a round: the power is being raised -/
structure JR (w : World) (y : BitVec 32) (N m : Nat) (W wr : World) : Prop where
  c0 : Boxed wr w.heap.size 23 (.int .u32 y.toNat)
  c1 : Boxed wr (w.heap.size + 1) 3 (.int .i64 (m : Int))
  c2 : Boxed wr (w.heap.size + 1 + 1) 23 (.int .u32 (pw m).toNat)
  c3 : Boxed wr (w.heap.size + 1 + 1 + 1) 2 (.int .i64 (N : Int))
  oth : KeepsOthers W wr
  kept : KeepsAt (w.heap.size + 1 + 1 + 1) W wr
  bel : Below w.heap.size w wr

theorem boxed_other {W : World} {B : Nat} {t : TypeId} {v : Value} (h : Boxed W B t v) (B' : Nat) (x : Value) (hne : B ≠ B') : Boxed (W.setCell ⟨B', 0, none⟩ x) B t v :=
  (Below.heap_setCell W ⟨B', 0, none⟩ x B hne).trans h

theorem JR.raise {w : World} {y : BitVec 32} {N m : Nat} {W wr : World} (h : JR w y N m W wr) :
    JR w y N (m + 1) W ((wr.setCell ⟨w.heap.size + 1 + 1, 0, none⟩ (.int .u32 (pw (m + 1)).toNat)).setCell ⟨w.heap.size + 1, 0, none⟩ (.int .i64 ((m + 1 : Nat) : Int))) := by
  have c3 := boxed_other (boxed_other h.c3 (w.heap.size + 1 + 1) (.int .u32 (pw (m + 1)).toNat) (by omega)) (w.heap.size + 1) (.int .i64 ((m + 1 : Nat) : Int)) (by omega)
  exact ⟨boxed_other (boxed_other h.c0 _ _ (by omega)) _ _ (by omega), Boxed.set _ (boxed_other h.c1 _ _ (by omega)), boxed_other (Boxed.set _ h.c2) _ _ (by omega), c3,
    (h.oth.trans (KeepsOthers.setCell _ _ _)).trans (KeepsOthers.setCell _ _ _), (c3.cell.trans h.c3.cell.symm).trans h.kept,
    (h.bel.setCell (by show w.heap.size ≤ w.heap.size + 1 + 1; omega) _).setCell (by show w.heap.size ≤ w.heap.size + 1; omega) _⟩

theorem JR.turn {w : World} {y : BitVec 32} {N m : Nat} {W wr : World} (h : JR w y N m W wr) (z : BitVec 32) :
    JR w z N m W (wr.setCell ⟨w.heap.size, 0, none⟩ (.int .u32 z.toNat)) := by
  have c3 := boxed_other h.c3 w.heap.size (.int .u32 z.toNat) (by omega)
  exact ⟨Boxed.set _ h.c0, boxed_other h.c1 _ _ (by omega), boxed_other h.c2 _ _ (by omega), c3,
    h.oth.trans (KeepsOthers.setCell _ _ _), (c3.cell.trans h.c3.cell.symm).trans h.kept, h.bel.setCell (Nat.le_refl _) _⟩

theorem join_meas {o o' : Option Value} {x m : Nat} (h1 : o = some (.int .i64 ((m + 1 : Nat) : Int))) (h2 : o' = some (.int .i64 (m : Int))) (h : m < x) :
    x - (intOf (o.getD undef)).toNat < x - (intOf (o'.getD undef)).toNat := by
  subst h1; subst h2; simp [intOf]; omega

theorem eq_zero_bv (x : BitVec 32) : ((x.toNat : Int) == 0) = (x == 0#32) := by
  by_cases h : x = 0#32
  · subst h; rfl
  · have h1 : x.toNat ≠ 0 := fun e => h (BitVec.eq_of_toNat_eq (by simpa using e))
    have h2 : (x == 0#32) = false := by simpa using h
    rw [h2]; simp; omega

theorem ones_seq (N B : Nat) (hN : N < 2 ^ 63) (w : World) (hB : w.cell? ⟨B, 0, none⟩ = some (.int .i64 (N : Int))) :
    SeqStopsK Fence.wide 4 Try.prog 121 #[.pointer (some ⟨B, 0, none⟩)] (fun x : Fin 64 => #[Value.int .i64 ((x.val : Nat) : Int)]) (KeepsAt B) (fun ys => ys = onesF N 64) (fun pre => ∃ k, k ≤ 64 ∧ pre = onesF N k) 64 w := fun l J Jx W hW _ _ hY h0 =>
  ones1_in Fence.wide 4 trivial rfl (by decide) l B N hN J Jx hY W ((hW.cell (p := ⟨B, 0, none⟩) (World.block_lt_of_cell? w _ hB)).trans hB) h0

set_option maxRecDepth 100000 in
set_option maxHeartbeats 2000000 in
theorem join_any (a b : BitVec 32) (N : Nat) (hN : N ≤ 1099511627776) (w : World) :
    Calls Try.prog 29 #[.int .u32 a.toNat, .int .u32 b.toNat, .int .i64 (N : Int)] w fun e w' => e = .returned (.tuple #[.int .u32 (shn (8 * N) a ^^^ b).toNat, .int .i64 0]) ∧ Below w.heap.size w w' := by
  refine callsIn_wide.1 (callsIn_of_wp_marks (F := Fence.wide) (n := 5) Try.func29 rfl trivial (wpIn_wide.2 ?_) rfl)
  simp only [Try.ntmps29, List.size_toArray, List.length_cons, List.length_nil, Nat.reduceAdd, Nat.reduceSub, Array.replicate_succ, Array.replicate_zero, List.push_toArray, List.append_toArray, List.nil_append, List.cons_append]
  go_wp2
  refine wp_scope_straight ?_
  go_wp2_with (go_at_call 82; refine (ones_any N _).mono ?_; rintro e w' ⟨rfl, rfl⟩)
  refine wp_label ?_
  have h4 : (((w.alloc (Obj.cells #[Value.int IntKind.u32 ↑a.toNat] 23)).alloc (Obj.cells #[Value.int IntKind.i64 0] 3)).alloc (Obj.cells #[Value.int IntKind.u32 8388608] 23)).heap.size = w.heap.size + 1 + 1 + 1 := by simp
  have hi0 : JI w a N [] ((((w.alloc (Obj.cells #[Value.int IntKind.u32 ↑a.toNat] 23)).alloc (Obj.cells #[Value.int IntKind.i64 0] 3)).alloc (Obj.cells #[Value.int IntKind.u32 8388608] 23)).alloc (Obj.cells #[Value.int IntKind.i64 ↑N] 2)) := by
    refine ⟨?_, ?_, ?_, ?_, ((((Below.refl _ _).alloc (Nat.le_refl _) _).alloc (by simp) _).alloc (by simp; omega) _).alloc (by simp; omega) _⟩
    · rw [Below.heap_alloc _ _ _ (by simp; omega), Below.heap_alloc _ _ _ (by simp; omega), Below.heap_alloc _ _ _ (by simp), heap_alloc_new]; rfl
    · rw [Below.heap_alloc _ _ _ (by simp), Below.heap_alloc _ _ _ (by simp)]
      have := heap_alloc_new (w.alloc (Obj.cells #[Value.int IntKind.u32 ↑a.toNat] 23)) (Obj.cells #[Value.int IntKind.i64 0] 3)
      simpa [jAt] using this
    · rw [Below.heap_alloc _ _ _ (by simp)]
      have := heap_alloc_new ((w.alloc (Obj.cells #[Value.int IntKind.u32 ↑a.toNat] 23)).alloc (Obj.cells #[Value.int IntKind.i64 0] 3)) (Obj.cells #[Value.int IntKind.u32 8388608] 23)
      have e : (pw (jAt (([] : List (Fin 64)).map (·.val)))).toNat = 8388608 := by decide
      rw [e]
      simpa using this
    · have := heap_alloc_new (((w.alloc (Obj.cells #[Value.int IntKind.u32 ↑a.toNat] 23)).alloc (Obj.cells #[Value.int IntKind.i64 0] 3)).alloc (Obj.cells #[Value.int IntKind.u32 8388608] 23)) (Obj.cells #[Value.int IntKind.i64 ↑N] 2)
      simpa using this
  have HI0 := Lib.hid hi0
  have H4 := Lib.hid h4
  clear hi0 h4
  go_wp2_with (go_at_call 82; refine (ones_any N _).mono ?_; rintro e w' ⟨rfl, rfl⟩)
  have hi0 := HI0.out
  have hs : ((((w.alloc (Obj.cells #[Value.int IntKind.u32 ↑a.toNat] 23)).alloc (Obj.cells #[Value.int IntKind.i64 0] 3)).alloc (Obj.cells #[Value.int IntKind.u32 8388608] 23)).alloc (Obj.cells #[Value.int IntKind.i64 ↑N] 2)).heap.size = w.heap.size + 4 := by simp
  clear HI0 H4
  generalize ((((w.alloc (Obj.cells #[Value.int IntKind.u32 ↑a.toNat] 23)).alloc (Obj.cells #[Value.int IntKind.i64 0] 3)).alloc (Obj.cells #[Value.int IntKind.u32 8388608] 23)).alloc (Obj.cells #[Value.int IntKind.i64 ↑N] 2)) = W4 at *
  refine (wpIn_wide (n := 5)).1 ?_
  refine wpIn_rangeFunc_ownF (F := Fence.wide) (n := 5) rfl (by decide) rfl trivial (fun _ _ => rfl) (ones_seq N (w.heap.size + 1 + 1 + 1) (by omega) W4 (by simp [World.cell?, hi0.c3])) (fun h k => k.trans h) ?_ (Below.refl _ _) (fun _ => rfl)
    (JI w a N) (JX w a N) (by rw [hs]; exact JI.own w a N) (fun c => by rw [hs]; exact JX.own w a N c) hi0 (fun x => joinAct w a b N x) ?_ ?_ ?_ ?_
  · intro W l o o' hl _ _ _
    exact World.cell?_of_block (a := ⟨w.heap.size + 1 + 1 + 1, 0, none⟩) (World.putObj_heap_other (by show w.heap.size + 1 + 1 + 1 ≠ l; omega))
  · intro l x W K hK
    gi_wp2
    exact hK
  · intro l pre x W hI hlen
    unfold joinAct
    gi_wp2
    have hj0 : JR w (jA a (pre.map (·.val))) N (jAt (pre.map (·.val))) W W := ⟨hI.c0, hI.c1, hI.c2, hI.c3, KeepsOthers.refl _, rfl, hI.bel⟩
    have hx := x.isLt
    gi_loopw [20] (fun _ wr => ∃ m : Nat, jAt (pre.map (·.val)) ≤ m ∧ m ≤ max (jAt (pre.map (·.val))) x.val ∧ JR w (jA a (pre.map (·.val))) N m W wr)
      (fun _ wr => x.val - (intOf ((wr.cell? ⟨w.heap.size + 1, 0, none⟩).getD undef)).toNat)
    case atStart => exact ⟨_, Nat.le_refl _, Nat.le_max_left _ _, hj0⟩
    case round =>
      obtain ⟨m, hm1, hm2, hJ⟩ := hrel
      have a0 := hJ.c0.cell
      have a1 := hJ.c1.cell
      have a2 := hJ.c2.cell
      have f0 := hJ.c0.frozen
      have f1 := hJ.c1.frozen
      have f2 := hJ.c2.frozen
      have hw83 : Fence.wide.fn 83 = True := rfl
      by_cases hlt : m < x.val
      · have HP := Lib.hid (pw_succ m)
        have hr := hJ.raise
        have HR := Lib.hid hr
        clear hr
        gi_wp2_with (gi_at_call 83; refine (CallsIn.inRound l (product_in Fence.wide _ rfl _ _ _)).mono ?_; rintro e w' ⟨rfl, rfl⟩; rw [HP.out])
        go_roundw
        case rel => exact ⟨m + 1, by omega, by omega, HR.out⟩
        case measure => exact join_meas HR.out.c1.cell hJ.c1.cell hlt
      · obtain rfl : m = max (jAt (pre.map (·.val))) x.val := by omega
        have HZ := Lib.hid (eq_zero_bv (jA a (pre.map (·.val))))
        by_cases hz : jA a (pre.map (·.val)) = 0#32
        · have hz0 : (((jA a (pre.map (·.val))).toNat : Int) == 0) = true := by rw [eq_zero_bv, hz]; rfl
          gi_wp2
          refine ⟨hJ.oth, ⟨⟨rfl, by simpa using hz⟩, ?_, hJ.bel⟩⟩
          have := hJ.c0
          rw [hz] at this
          exact this
        · have hz0 : (((jA a (pre.map (·.val))).toNat : Int) == 0) = false := by rw [eq_zero_bv]; simpa using hz
          have HP := Lib.hid (pr_pw (jA a (pre.map (·.val))) (max (jAt (pre.map (·.val))) x.val))
          have hr := hJ.turn (shn (8 * 2 ^ max (jAt (pre.map (·.val))) x.val) (jA a (pre.map (·.val))))
          have HR := Lib.hid hr
          clear hr
          gi_wp2_with (gi_at_call 83; refine (CallsIn.inRound l (product_in Fence.wide _ rfl _ _ _)).mono ?_; rintro e w' ⟨rfl, rfl⟩; rw [HP.out])
          refine ⟨HR.out.oth, HR.out.kept, ?_⟩
          have e1 : (pre ++ [x]).map (·.val) = pre.map (·.val) ++ [x.val] := by simp
          refine ⟨?_, ?_, ?_, HR.out.c3, HR.out.bel⟩
          · rw [e1, jA_snoc]; exact HR.out.c0
          · rw [e1, jAt_snoc]; exact HR.out.c1
          · rw [e1, jAt_snoc]; exact HR.out.c2
  · intro D xs W hD hxs hI hdef
    have hval : jA a (xs.map (·.val)) = shn (8 * N) a := by
      rw [hxs, onesF_val N 64 (by omega), jA_ones, Nat.mod_eq_of_lt (by omega)]
    have hc := hI.c0
    rw [hval] at hc
    have hcell := Boxed.cell hc
    have HX := Lib.hid (bits_xor (shn (8 * N) a) b)
    have hbel := hI.bel
    clear hI hi0 hc hval hxs
    go_wp2
    refine ⟨by simp, .inl ⟨_, _, rfl, run_takeDeferred hdef, ?_⟩⟩
    refine ⟨_, results_tmp2 rfl _ _ _, ?_, hbel.grown (grownBy_putObj' W D _) hbel.size (fun k e => by cases e; omega)⟩
    show Ending.returned (.tuple #[.int .u32 _, .int .i64 0]) = _
    rw [HX.out]
  · intro D c pre W hD hpre hX hdef
    obtain ⟨⟨rfl, hz⟩, hc, hbel⟩ := hX
    obtain ⟨k, hk, hpk⟩ := hpre
    have ha : a = 0#32 := by
      have key : ∀ (n : Nat) (l : List Nat), l.length = n → jA a l = 0#32 → a = 0#32 := by
        intro n
        induction n with
        | zero => intro l hl h; rw [List.eq_nil_of_length_eq_zero hl] at h; exact h
        | succ n ih =>
          intro l hl h
          rcases List.eq_nil_or_concat l with e | ⟨L, x, e⟩
          · subst e; simp at hl
          · rw [List.concat_eq_append] at e; subst e
            rw [jA_snoc] at h
            exact ih L (by simpa using hl) (shn_inj0 _ _ h)
      exact key _ _ rfl hz
    subst ha
    have hcell := Boxed.cell hc
    have HX := Lib.hid (bits_xor 0#32 b)
    clear hi0 hc
    refine wpIn_wide.2 ?_
    go_wp2
    refine ⟨by simp, .inl ⟨_, _, rfl, run_takeDeferred hdef, ?_⟩⟩
    refine ⟨_, results_tmp2 rfl _ _ _, ?_, hbel.grown (grownBy_putObj' W D _) hbel.size (fun k e => by cases e; omega)⟩
    show Ending.returned (.tuple #[.int .u32 _, .int .i64 0]) = _
    rw [shn_zero]
    exact congrArg (fun v => Ending.returned (.tuple #[.int .u32 v, .int .i64 0])) HX.out
end Go.Proofs.Ytdinnkacilgmmaa
