/- The walk of Write. -/
import Derived.Test.YtdinnkacilgmmaaDisk2
namespace Go.Proofs.Ytdinnkacilgmmaa
open Go.RowKit
set_option maxHeartbeats 1000000 in
set_option maxRecDepth 100000 in
theorem write_ok {w : World} {B p : Nat} {vs vn vl : Value} {D : Dsk} (h : DiskV w B p vs vn vl D) (n : Nat) (a : Option Addr) (b : List UInt8) (cap : Nat) (hb : BytesAt w a b)
   (hg : D.gone = false) (hfull : D.full = false) (hlen : (b.length : Int) ≤ 256) (hwr : D.wrong (n : Int) = 0) (hlim : D.l.length + 1 ≤ 1048576) (hn : n < D.N) (hw : D.why n b = 0) :
    Calls Try.prog 40 #[.pointer (some ⟨p, 0, none⟩), .int .i64 n, .slice a b.length cap] w fun e w' => e = .returned (.int .i64 0) ∧ Turned w B p (foot p vs vn vl) (D.write n b) w' := by
  obtain ⟨-, c1, c2, -, c4, c5⟩ := h.cell
  rw [hg] at c5
  rw [hfull] at c4
  have hl : b.length ≤ 256 := by omega
  have hl2 : (256 < (b.length : Int)) = False := by simp; omega
  have ks := run_store132
  go_enter Try.func40, Try.ntmps40
  go_wp2_with (go_at_call 87; refine (wrong_any h n).mono ?_; rintro e w' ⟨rfl, rfl⟩; rw [hwr])
  obtain ⟨w1, hrun, hw1, hm1⟩ := copy_run (w := w.alloc (Obj.cells (chg (n, zeros256)).toArray 132)) 3 w.heap.size 1 256 256 a b.length cap b rfl hl (hb.fresh ((Below.refl _ _).alloc (Nat.le_refl _) _)) _ 132 (heap_alloc_new w _) (by rw [List.size_toArray, chg_length (n, zeros256) zeros256_length]; unfold chgSize; omega)
  rw [hrun]
  clear hrun
  rw [splice_chg n b hl] at hw1
  have hm1' : Mod (fun k => k = w.heap.size) w w1 := (Mod.alloc _ w _).trans' hm1
  generalize hq : w.heap.size = q at *
  have hb1 : Below q w w1 := hm1'.below (fun k hk => by omega) (by omega)
  clear hm1
  have d1 := (h.mod hm1' (fun k hk e => by have := (h.lt k hk).2; omega)).cell
  have o1 := h.l.mod hm1' (fun k hk e => by have := (h.lt k (.inr (.inr (.inr hk.symm)))).2; omega)
  have f1 := thaw_of (i := 2) ((h.mod hm1' (fun k hk e => by have := (h.lt k hk).2; omega)).at_)
  have pq : p ≠ q := by have := (h.lt p (.inl rfl)).2; omega
  have vq : ∀ j, vl.ownBlock = some j → B ≤ j ∧ j < q := by have := fun j hj => h.lt j (.inr (.inr (.inr (Eq.symm hj)))); intro j hj; have := this j hj; omega
  have pv : vl.ownBlock ≠ some p := h.ne_sl.2.2.1
  obtain ⟨-, e1, e2, -, -, -⟩ := d1
  have hsl : (sect b).length = 256 := sect_length b hl
  have hXs : (chg (n, sect b)).toArray.size = chgSize := by rw [List.size_toArray, chg_length (n, sect b) hsl]
  have hnn := h.wf.now
  have hnF : ∀ k, vn.ownBlock = some k → ¬ (k = q ∨ some k = vl.ownBlock ∨ k = p) := by
    rintro k hk (e | e | e)
    · have := (h.lt k (.inr (.inr (.inl hk.symm)))).2; omega
    · exact (h.ne_sl.2.2.2 k e.symm).2 hk
    · exact h.ne_sl.2.1 (by rw [hk, e])
  have hne : D.now ≠ [] := by intro e; rw [e] at hnn; have := h.wf.pos'; simp at hnn; omega
  have hN : D.N * 256 ≤ D.now.length := by rw [hnn]; exact Nat.le_of_eq h.wf.len.symm
  have hb' : D.now.length ≤ 1048576 := by rw [hnn]; exact h.wf.bound
  clear hnn
  have hX1 := fun (w : World) (C : Array Value) (h : C.size = chgSize) => run_one132 w C h
  obtain ⟨hcc, hbt⟩ := chg_cells hw1
  have hrange : w1.rangeAt q 0 (chg (n, sect b)) := by
    have := World.rangeAt_of_block hw1 0 chgSize
    rw [Nat.zero_add, show ((chg (n, sect b)).toArray.extract 0 chgSize).toList = chg (n, sect b) by rw [← hXs]; simp] at this
    exact this
  have hlen1 := chg_length (n, sect b) hsl
  have hi : (Try.prog.info? 132).map (·.size) = some (chg (n, sect b)).length := by rw [info132_size, hlen1]
  have kb := fun (w : World) => run_one132 w _ hXs
  generalize hx : chg (n, sect b) = X at *
  have HW1 := Lib.hid hw1
  have HCC := Lib.hid hcc
  have HM1 := Lib.hid hm1'
  clear hw1 hcc hm1'
  go_wp2_with fail
  have hqs : q < w1.heap.size := lt_of_block HW1.out
  refine wp_region_held_drew (S := fun w' => w'.rangeAt q 0 X) (by kernel_rfl) (by simpa using hrange) (fun hHeld => ?_)
  refine' wpAnyH_take (i := 5) (oi := { dst := some 44, op := Op.load 132 (Operand.tmp 8), type := 132, pos := "disk.go:99", after := #[], guard := none }) (v := _) rfl (by kernel_rfl) (by kernel_rfl) (by kernel_rfl) (fun _ _ _ h => h) (yieldsIf_load_mid (by rfl) 132 _ rfl q 0 rfl X _ (fun _ hS => hS) Try.underlying132 rfl hi) (by assumption) ?_
  try simp only [Act.put, List.setIfInBounds_toArray, List.set_cons_zero, List.set_cons_succ]
  refine wpAnyH_take (i := 0) (oi := { dst := some 39, op := Op.move (Operand.tmp 0), type := 40, pos := "disk.go:99", after := #[], guard := none }) (v := .pointer (some ⟨p, 0, none⟩)) rfl (by kernel_rfl) (by kernel_rfl) (by kernel_rfl) (fun _ _ _ h => h) (Or.inl ⟨by rfl, fun w hSw => by clear hSw; go_simp⟩) (by assumption) ?_
  simp only [Act.put, List.setIfInBounds_toArray, List.set_cons_zero, List.set_cons_succ]
  refine wpAnyH_take (i := 1) (oi := { dst := some 40, op := Op.move (Operand.tmp 0), type := 40, pos := "disk.go:99", after := #[], guard := none }) (v := .pointer (some ⟨p, 0, none⟩)) rfl (by kernel_rfl) (by kernel_rfl) (by kernel_rfl) (fun _ _ _ h => h) (Or.inl ⟨by rfl, fun w hSw => by clear hSw; go_simp⟩) (by assumption) ?_
  simp only [Act.put, List.setIfInBounds_toArray, List.set_cons_zero, List.set_cons_succ]
  refine wpAnyH_take (i := 2) (oi := { dst := some 41, op := Op.nilCheck (Operand.tmp 40), type := 0, pos := "disk.go:99", after := #[{ on := 1, ground := Ground.data }], guard := none }) (v := .pointer (some ⟨p, 0, none⟩)) rfl (by kernel_rfl) (by kernel_rfl) (by kernel_rfl) (fun _ _ _ h => h) (Or.inl ⟨by rfl, fun w hSw => by clear hSw; go_simp⟩) (by assumption) ?_
  simp only [Act.put, List.setIfInBounds_toArray, List.set_cons_zero, List.set_cons_succ]
  refine wpAnyH_take (i := 3) (oi := { dst := some 42, op := Op.fieldAddr 129 (Operand.tmp 41) 2, type := 0, pos := "disk.go:99", after := #[{ on := 2, ground := Ground.data }], guard := none }) (v := .pointer (some ⟨p, 2, none⟩)) rfl (by kernel_rfl) (by kernel_rfl) (by kernel_rfl) (fun _ _ _ h => h) (Or.inl ⟨by rfl, fun w hSw => by clear hSw; go_simp⟩) (by assumption) ?_
  simp only [Act.put, List.setIfInBounds_toArray, List.set_cons_zero, List.set_cons_succ]
  refine wpAnyH_ready (rs := [4, 6]) (by kernel_rfl) (by simp) ?_
  have e2d : w1.drew.cell? ⟨p, 2, none⟩ = some vl := by simpa using e2
  have e2a : (w1.drew.alloc (.cells X.toArray 132)).cell? ⟨p, 2, none⟩ = some vl := by
    rw [World.cell?_alloc_lt _ _ _ (World.block_lt_of_cell? _ _ e2d)]; exact e2d
  have e2b : (w1.alloc (.cells X.toArray 132)).cell? ⟨p, 2, none⟩ = some vl := by
    rw [World.cell?_alloc_lt _ _ _ (World.block_lt_of_cell? _ _ e2)]; exact e2
  have hra : (w1.drew.alloc (.cells X.toArray 132)).rangeAt q 0 X := World.rangeAt_alloc (by simpa using hrange) _
  refine AllReadyH.cons (o := { dst := some 43, op := Op.load 127 (Operand.tmp 42), type := 127, pos := "disk.go:99", after := #[{ on := 3, ground := Ground.data }], guard := none }) rfl (fun K hK => ?_) (AllReadyH.cons (o := { dst := some 45, op := Op.buildSlice 127 1 #[(0, Operand.tmp 44)], type := 127, pos := "disk.go:99", after := #[{ on := 5, ground := Ground.data }], guard := none }) rfl (fun K hK => ?_) AllReadyH.nil)
  go_simp
  refine hK.out _ _ (by simpa using hrange) (fun hHeld => ?_)
  clear hK K
  refine wpAnyH_ready (rs := [6]) (by kernel_rfl) (by simp) ?_
  refine AllReadyH.cons (o := { dst := some 45, op := Op.buildSlice 127 1 #[(0, Operand.tmp 44)], type := 127, pos := "disk.go:99", after := #[{ on := 5, ground := Ground.data }], guard := none }) rfl (fun K hK => ?_) AllReadyH.nil
  refine one132_step rfl (.tmp 44) rfl X.toArray rfl hXs ?_
  simp only [Act.put, List.setIfInBounds_toArray, List.set_cons_zero, List.set_cons_succ]
  refine hK.out _ _ hra (fun hHeld => ?_)
  clear hK K
  rotate_left
  refine one132_step rfl (.tmp 44) rfl X.toArray rfl hXs ?_
  simp only [Act.put, List.setIfInBounds_toArray, List.set_cons_zero, List.set_cons_succ]
  refine hK.out _ _ hra (fun hHeld => ?_)
  clear hK K
  refine wpAnyH_ready (rs := [4]) (by kernel_rfl) (by simp) ?_
  refine AllReadyH.cons (o := { dst := some 43, op := Op.load 127 (Operand.tmp 42), type := 127, pos := "disk.go:99", after := #[{ on := 3, ground := Ground.data }], guard := none }) rfl (fun K hK => ?_) AllReadyH.nil
  go_simp
  rw [show (w1.alloc (.cells X.toArray 132)).drew = w1.drew.alloc (.cells X.toArray 132) from rfl]
  refine hK.out _ _ hra (fun hHeld => ?_)
  clear hK K
  all_goals
    refine wpAnyH_ready (rs := [7]) (by kernel_rfl) (by simp) ?_
    refine AllReadyH.cons (o := { dst := some 46, op := Op.call { callee := Callee.builtin Builtin.append, args := #[Operand.tmp 43, Operand.tmp 45], argTypes := #[127, 127] }, type := 127, pos := "disk.go:99", after := #[{ on := 4, ground := Ground.data }, { on := 6, ground := Ground.data }], guard := none }) rfl (fun K hK => ?_) AllReadyH.nil
    refine appC_step rfl _ _ rfl B vl D.l rfl (o1.mod (Mod.trans' (Mod.drew (fun _ => False) _) (Mod.alloc _ _ _)) (fun _ _ => id)) _ _ _ [(n, sect b)] rfl rfl (fun y hy => by rw [List.mem_singleton.1 hy]; exact hsl)
      ((chg_cells (x := (n, sect b)) (by rw [hx]; exact heap_alloc_new w1.drew _)).1) hlim (by have := hb1.size; have := h.hp; have := (h.lt p (.inl rfl)).2; simp; omega) ?_
    intro v3 w3 hown3 hmod3 hpl
    obtain ⟨av, cv, e3, -, -⟩ := hown3.shape
    generalize hNN : (D.l ++ [(n, sect b)]).length = NN at e3
    subst e3
    have HNN := Lib.hid hNN
    clear hNN
    simp only [Act.put, List.setIfInBounds_toArray, List.set_cons_zero, List.set_cons_succ]
    have g2 : w3.cell? ⟨p, 2, none⟩ = some vl := hmod3.cell' e2a (fun e => pv e.symm)
    have gr : w3.rangeAt q 0 X := fun j v hv => hmod3.cell' (hHeld j v hv) (fun e => by have := vq q e.symm; omega)
    have gf : w3.frozen? ⟨p, 2, none⟩ = false := by
      have hA := (h.mod HM1.out (fun k hk e => by have := (h.lt k hk).2; omega)).at_
      have hA2 := (Mod.trans' (Mod.drew (fun _ => False) w1) (Mod.alloc _ _ (.cells X.toArray 132))).obj hA id
      exact thaw_of (hmod3.obj hA2 (fun e => pv e.symm))
    refine hK.out _ _ gr (fun hHeld => ?_)
    clear hK K
    refine wpAnyH_take (i := 8) (oi := { dst := some 47, op := Op.nilCheck (Operand.tmp 39), type := 0, pos := "disk.go:99", after := #[{ on := 0, ground := Ground.data }, { on := 0, ground := Ground.phase }, { on := 1, ground := Ground.phase }, { on := 2, ground := Ground.phase }, { on := 3, ground := Ground.phase }, { on := 4, ground := Ground.phase }, { on := 5, ground := Ground.phase }, { on := 6, ground := Ground.phase }, { on := 7, ground := Ground.phase }], guard := none })
      (v := .pointer (some ⟨p, 0, none⟩)) rfl (by kernel_rfl) (by kernel_rfl) (by kernel_rfl) (fun _ _ _ h => h) (Or.inl ⟨by rfl, fun w hSw => by clear hSw; go_simp⟩) (by assumption) ?_
    simp only [Act.put, List.setIfInBounds_toArray, List.set_cons_zero, List.set_cons_succ]
    refine wpAnyH_take (i := 9) (oi := { dst := some 48, op := Op.fieldAddr 129 (Operand.tmp 47) 2, type := 0, pos := "disk.go:99", after := #[{ on := 8, ground := Ground.data }, { on := 0, ground := Ground.phase }, { on := 1, ground := Ground.phase }, { on := 2, ground := Ground.phase }, { on := 3, ground := Ground.phase }, { on := 4, ground := Ground.phase }, { on := 5, ground := Ground.phase }, { on := 6, ground := Ground.phase }, { on := 7, ground := Ground.phase }], guard := none })
      (v := .pointer (some ⟨p, 2, none⟩)) rfl (by kernel_rfl) (by kernel_rfl) (by kernel_rfl) (fun _ _ _ h => h) (Or.inl ⟨by rfl, fun w hSw => by clear hSw; go_simp⟩) (by assumption) ?_
    simp only [Act.put, List.setIfInBounds_toArray, List.set_cons_zero, List.set_cons_succ]
    refine wpAnyH_ready (rs := [10]) (by kernel_rfl) (by simp) ?_
    refine AllReadyH.cons (o := { dst := none, op := Op.store 127 (Operand.tmp 48) (Operand.tmp 46), type := 0, pos := "disk.go:99", after := #[{ on := 9, ground := Ground.data }, { on := 7, ground := Ground.data }, { on := 7, ground := Ground.chain }, { on := 0, ground := Ground.phase }, { on := 1, ground := Ground.phase }, { on := 2, ground := Ground.phase }, { on := 3, ground := Ground.phase }, { on := 4, ground := Ground.phase }, { on := 5, ground := Ground.phase }, { on := 6, ground := Ground.phase }, { on := 7, ground := Ground.phase }], guard := none }) rfl (fun K hK => ?_) AllReadyH.nil
    go_simp
    refine hK.out _ _ (fun j v hv => ?_) (fun hHeld => ?_)
    · rw [World.cell?_setCell_other _ _ _ _ (by intro e; exact pq (congrArg Addr.block e))]
      exact gr j v hv
    clear hK K
    refine wpAnyH_done (by kernel_rfl) ?_ _
    obtain ⟨m4, hq4, hp4, hl4, hpl4⟩ := write_mem h (n, sect b) X.toArray X.toArray hq HM1.out HW1.out hown3 hmod3 hpl
    generalize w3.setCell ⟨p, 2, none⟩ (.slice av NN cv) = w4 at *
    clear hown3 hmod3 hpl g2 gr gf HNN hHeld hra e2a e2b e2d
    have n4 := h.now.mod m4 hnF
    obtain ⟨gn, capn, curn, ev, -, hgn, hle4, -, hsz4, -⟩ := n4.row hne
    have hgp : ¬ p = gn := fun e => h.ne_sl.2.1 (by rw [ev, e]; rfl)
    have hgo : vn.ownBlock = some gn := by rw [ev]; rfl
    have HGO := Lib.hid hgo
    have HEV := Lib.hid ev
    clear hgo
    rw [ev] at n4 e1
    have c1n : w4.cell? ⟨p, 1, none⟩ = some (.slice (some ⟨gn, 0, none⟩) D.now.length capn) := by rw [cell_of_row w4 p 1 _ 129 (0, 0) hp4]; simp [ev]
    have hb4 : BytesAt w4 (some ⟨q, 1, none⟩) (sect b) := (chg_cells (x := (n, sect b)) (by rw [hx]; exact hq4)).2
    have HP4 := Lib.hid hp4
    have HG4 := Lib.hid hgn
    have HQ4 := Lib.hid hq4
    clear hp4 hgn hq4
    go_wp2_with fail
    go_region_held3 (fun w' => w'.cell? ⟨p, 1, none⟩ = some (.slice (some ⟨gn, 0, none⟩) D.now.length capn)) (first | (show _ = _; simpa using c1n) | exact m5.cell' (by simpa using c1n) hgp)
      (first
       | (go_at_call 85; (with_reducible refine (at_any (some ⟨gn, 0, none⟩) D.now.length D.N capn n _ hN hle4 hn hb' gn 0 rfl).mono ?_); rintro e w' ⟨rfl, rfl⟩)
       | (refine copyB_step rfl _ _ rfl gn (n * 256) 256 256 rfl (some ⟨q, 1, none⟩) 256 256 rfl (sect b) hsl (Nat.le_refl _) (by exact hb4) curn 5 (by exact HG4.out) (by rw [hsl]; omega) ?_; intro w5 hw5 m5))
    go_wp2_with fail
    go_ret
    have hn5 := OwnB.laid (n4.mod (Mod.drew (fun _ => False) w4) (fun _ _ => id)) (by exact HG4.out) hw5 (by rw [hsl]; omega)
    rw [← HEV.out] at hn5
    exact ⟨rfl, write_end h n b hw hq m4 HP4.out hl4 hpl4 HGO.out ((Mod.drew (fun k => k = gn) w4).trans' m5) hn5⟩

theorem Turned.refl {w : World} {B p : Nat} {vs vn vl : Value} {D : Dsk} (h : DiskV w B p vs vn vl D) : Turned w B p (foot p vs vn vl) D w :=
  ⟨Mod.refl _ _, _, ⟨vs, vn, vl, h, rfl⟩, fun _ hk => .inl hk⟩

set_option maxRecDepth 100000 in
theorem write_no {w : World} {B p : Nat} {vs vn vl : Value} {D : Dsk} (h : DiskV w B p vs vn vl D) (n : Int) (a : Option Addr) (b : List UInt8) (cap : Nat) (hm : b.length ≤ 140737488355328) (hw : D.why n b ≠ 0) :
    Calls Try.prog 40 #[.pointer (some ⟨p, 0, none⟩), .int .i64 n, .slice a b.length cap] w fun e w' => e = .returned (.int .i64 (D.why n b)) ∧ w = w' := by
  obtain ⟨-, -, -, -, c4, c5⟩ := h.cell
  by_cases hg : D.gone = true
  · have e : D.why n b = 21 := by simp [Dsk.why, hg]
    rw [e]
    rw [hg] at c5
    go_enter Try.func40, Try.ntmps40
    go_wp2
    go_ret
    exact ⟨rfl, rfl⟩
  have hg : D.gone = false := by simpa using hg
  rw [hg] at c5
  by_cases hn : n < 0 ∨ (D.N : Int) ≤ n
  · have e : D.why n b = 1 := by simp [Dsk.why, hg, hn]
    have e2 : D.wrong n = 1 := by simp [Dsk.wrong, hn]
    have hwr := wrong_any h n
    rw [e2] at hwr
    rw [e]
    go_enter Try.func40, Try.ntmps40
    go_wp2_with (go_at_call 87; refine hwr.mono ?_; rintro e w' ⟨rfl, rfl⟩)
    go_ret
    exact ⟨rfl, rfl⟩
  have e2 : D.wrong n = 0 := by unfold Dsk.wrong; rw [if_neg hn]
  have hwr := wrong_any h n
  rw [e2] at hwr
  by_cases hl : 256 < b.length
  · have e : D.why n b = 3 := by simp [Dsk.why, hg, hn, hl]
    have hl' : (256 : Int) < (b.length : Int) := by omega
    rw [e]
    go_enter Try.func40, Try.ntmps40
    go_wp2_with (go_at_call 87; refine hwr.mono ?_; rintro e w' ⟨rfl, rfl⟩)
    go_ret
    exact ⟨rfl, rfl⟩
  by_cases hf : D.full = true
  · have e : D.why n b = 4 := by simp [Dsk.why, hg, hn, hl, hf]
    have hl' : (b.length : Int) ≤ 256 := by omega
    rw [e]
    rw [hf] at c4
    go_enter Try.func40, Try.ntmps40
    go_wp2_with (go_at_call 87; refine hwr.mono ?_; rintro e w' ⟨rfl, rfl⟩)
    go_ret
    exact ⟨rfl, rfl⟩
  · exact absurd (by simp [Dsk.why, hg, hn, hl, hf]) hw

/-- Write -/
theorem write_any {w : World} {B p : Nat} {vs vn vl : Value} {D : Dsk} (h : DiskV w B p vs vn vl D) (hlim : D.l.length + 1 ≤ 1048576) (n : Int) (a : Option Addr) (b : List UInt8) (cap : Nat) (hb : BytesAt w a b) (hm : b.length ≤ 140737488355328) :
    Calls Try.prog 40 #[.pointer (some ⟨p, 0, none⟩), .int .i64 n, .slice a b.length cap] w fun e w' => e = .returned (.int .i64 (D.why n b)) ∧ Turned w B p (foot p vs vn vl) (D.write n b) w' := by
  by_cases hw : D.why n b = 0
  · have hc := hw
    unfold Dsk.why at hc
    split at hc
    · exact absurd hc (by decide)
    split at hc
    · exact absurd hc (by decide)
    split at hc
    · exact absurd hc (by decide)
    split at hc
    · exact absurd hc (by decide)
    rename_i h1 h2 h3 h4
    obtain ⟨k, rfl⟩ : ∃ k : Nat, n = (k : Int) := ⟨n.toNat, by omega⟩
    have := write_ok h k a b cap hb (by simpa using h1) (by simpa using h4) (by omega) (by unfold Dsk.wrong; rw [if_neg h2]) hlim (by omega) hw
    rw [hw]
    exact this
  · refine (write_no h n a b cap hm hw).mono ?_
    rintro e w' ⟨rfl, rfl⟩
    have : D.write n b = D := by unfold Dsk.write; rw [if_neg hw]
    rw [this]
    exact ⟨rfl, Turned.refl h⟩
end Go.Proofs.Ytdinnkacilgmmaa
