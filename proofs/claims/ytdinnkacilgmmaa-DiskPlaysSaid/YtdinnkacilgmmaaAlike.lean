/- alike: the program's disk and the reference's, of one content. -/
import Derived.Test.YtdinnkacilgmmaaRDisk6
namespace Go.Proofs.Ytdinnkacilgmmaa
open Go.RowKit

set_option maxHeartbeats 2000000 in
set_option maxRecDepth 100000 in
theorem alike_any {w : World} {B p q : Nat} {D : Dsk} {F G : Nat → Prop} (hd : DiskAt w B p D F) (hr : RDiskAt w B q D G) (hlim : D.l.length ≤ 1048576) :
    Calls Try.prog 51 #[.pointer (some ⟨p, 0, none⟩), .pointer (some ⟨q, 0, none⟩)] w fun e w' => e = .returned (.bool true) ∧ Mod (fun _ => False) w w' := by
  have KS : ∀ w', Mod (fun _ => False) w w' → Calls Try.prog 52 #[.pointer (some ⟨p, 0, none⟩)] w' fun e w'' => e = .returned (.int .i64 (D.N : Int)) ∧ w' = w'' := fun w' hm => (hd.mod hm (fun _ _ => id)).size
  have KU : ∀ w', Mod (fun _ => False) w w' → Calls Try.prog 39 #[.pointer (some ⟨p, 0, none⟩)] w' fun e w'' => e = .returned (.int .i64 (D.l.length : Int)) ∧ w' = w'' := fun w' hm => (hd.mod hm (fun _ _ => id)).unsynced
  have KD : ∀ w', Mod (fun _ => False) w w' → Calls Try.prog 38 #[.pointer (some ⟨p, 0, none⟩)] w' fun e w'' => e = .returned (.bool D.gone) ∧ w' = w'' := fun w' hm => (hd.mod hm (fun _ _ => id)).dead
  have KI : ∀ w', Mod (fun _ => False) w w' → Calls Try.prog 93 #[.pointer (some ⟨q, 0, none⟩)] w' fun e w'' => ∃ v, e = .returned v ∧ OwnB w'' w.heap.size v D.safe ∧ Mod (fun _ => False) w' w'' ∧ ∀ k, v.ownBlock = some k → w'.heap.size ≤ k := fun w' hm => (hr.mod hm (fun _ _ => id)).image w.heap.size hm.size
  have KA : ∀ w', Mod (fun _ => False) w w' → Calls Try.prog 34 #[.pointer (some ⟨p, 0, none⟩)] w' fun e w'' => ∃ v, e = .returned v ∧ OwnB w'' w.heap.size v D.safe ∧ Mod (fun _ => False) w' w'' ∧ ∀ k, v.ownBlock = some k → w'.heap.size ≤ k := fun w' hm => (hd.mod hm (fun _ _ => id)).image w.heap.size hm.size
  have KR : ∀ (n : Int) w', Mod (fun _ => False) w w' → Calls Try.prog 37 #[.pointer (some ⟨p, 0, none⟩), .int .i64 n] w' fun e w'' => ∃ v, e = .returned (.tuple #[v, .int .i64 (D.wrong n)]) ∧ OwnB w'' w.heap.size v (if D.wrong n = 0 then sector D.now n.toNat else []) ∧ Mod (fun _ => False) w' w'' ∧ ∀ k, v.ownBlock = some k → w'.heap.size ≤ k := fun n w' hm => (hd.mod hm (fun _ _ => id)).read n w.heap.size hm.size
  have KQ : ∀ (n : Int) w', Mod (fun _ => False) w w' → Calls Try.prog 94 #[.pointer (some ⟨q, 0, none⟩), .int .i64 n] w' fun e w'' => ∃ v, e = .returned (.tuple #[v, .int .i64 (D.wrong n)]) ∧ OwnB w'' w.heap.size v (if D.wrong n = 0 then sector D.now n.toNat else []) ∧ Mod (fun _ => False) w' w'' ∧ ∀ k, v.ownBlock = some k → w'.heap.size ≤ k := fun n w' hm => (hr.mod hm (fun _ _ => id)).read n w.heap.size hm.size hlim
  have hwf := hd.wf
  have hsec : ∀ n : Int, (if D.wrong n = 0 then sector D.now n.toNat else []).length ≤ 256 := fun n => by
    split
    · unfold sector; rw [List.length_take]; omega
    · simp
  have hbnd := hwf.bound
  have hN := hwf.top
  obtain ⟨vs, vl, xs, ys, hv, hG⟩ := hr
  obtain ⟨c0, c1, -, -, c4⟩ := hv.cell
  obtain ⟨as1, cs1, es, -, -, -⟩ := owns_shape hv.safe
  obtain ⟨al1, cl1, el, -, -, -⟩ := owns_shape hv.l
  rw [es, hv.hx] at c0
  rw [el] at c1
  clear es el hv hG hwf hd
  have hlim' : (D.l.length : Int) ≤ 1048576 := by omega
  replace KS := Lib.hid KS
  replace KU := Lib.hid KU
  replace KD := Lib.hid KD
  replace KI := Lib.hid KI
  replace KA := Lib.hid KA
  replace KR := Lib.hid KR
  replace KQ := Lib.hid KQ
  replace hsec := Lib.hid hsec
  go_enter Try.func51, Try.ntmps51
  go_wp2_with fail
  refine (KA.out _ (Mod.refl _ _)).mono ?_
  rintro e w1 ⟨va, rfl, oa, m1, n1⟩
  go_upto_region 2 with fail
  have C0 : ∀ w', Mod (fun _ => False) w1 w' → w'.cell? ⟨q, 0, none⟩ = some (.slice as1 D.N cs1) := fun w' hm => (m1.trans' hm).cell' c0 id
  have C1 : ∀ w', Mod (fun _ => False) w1 w' → w'.cell? ⟨q, 1, none⟩ = some (.slice al1 D.l.length cl1) := fun w' hm => (m1.trans' hm).cell' c1 id
  have C4 : ∀ w', Mod (fun _ => False) w1 w' → w'.cell? ⟨q, 4, none⟩ = some (.bool D.gone) := fun w' hm => (m1.trans' hm).cell' c4 id
  have CA : ∀ w', Mod (fun _ => False) w1 w' → (convert 22 9 va).run Try.prog w' = .ok (.string ⟨D.safe.toArray⟩) w' := fun w' hm => by
    obtain ⟨a, c, e, -, -, hb⟩ := (oa.mod hm (fun _ _ => id)).shape
    rw [e]; exact run_str hb D.safe.length c rfl
  go_cut [47] (fun s47 wx => s47 = .bool false ∧ Mod (fun _ => False) w1 wx)
  case first =>
    refine wp_region_held_drew (S := fun w' => Mod (fun _ => False) w1 w') (by kernel_rfl) (Mod.drew _ _) (fun hHeld => ?_)
    refine wpAnyH_take (i := 0) (oi := { dst := some 13, op := Op.move (Operand.tmp 5), type := 22, pos := "law.go:53", after := #[], guard := none }) (v := ?_) rfl (by kernel_rfl) (by kernel_rfl) (by kernel_rfl) (fun _ _ _ h => h) (Or.inl ⟨by rfl, ?_⟩) (by assumption) ?_
    rotate_left
    · (intro w hSw; (try dsimp only at hSw); go_simp; try with_reducible rfl)
    simp only [Act.put, List.setIfInBounds_toArray, List.set_cons_zero, List.set_cons_succ]
    refine wpAnyH_take (i := 1) (oi := { dst := some 14, op := Op.convert 22 9 (Operand.tmp 13), type := 9, pos := "law.go:53", after := #[{ on := 0, ground := Ground.data }], guard := none }) (v := ?_) rfl (by kernel_rfl) (by kernel_rfl) (by kernel_rfl) (fun _ _ _ h => h) (Or.inl ⟨by rfl, ?_⟩) (by assumption) ?_
    rotate_left
    · (intro w hSw; (try dsimp only at hSw); go_simp; try with_reducible rfl)
    simp only [Act.put, List.setIfInBounds_toArray, List.set_cons_zero, List.set_cons_succ]
    refine wpAnyH_take (i := 2) (oi := { dst := some 15, op := Op.move (Operand.tmp 1), type := 60, pos := "law.go:53", after := #[], guard := none }) (v := ?_) rfl (by kernel_rfl) (by kernel_rfl) (by kernel_rfl) (fun _ _ _ h => h) (Or.inl ⟨by rfl, ?_⟩) (by assumption) ?_
    rotate_left
    · (intro w hSw; (try dsimp only at hSw); go_simp; try with_reducible rfl)
    simp only [Act.put, List.setIfInBounds_toArray, List.set_cons_zero, List.set_cons_succ]
    refine wpAnyH_ready (rs := [3]) (by kernel_rfl) (by simp) ?_
    refine AllReadyH.cons (o := { dst := some 16, op := Op.call { callee := Callee.value (Operand.func 93), args := #[Operand.tmp 15], argTypes := #[60] }, type := 22, pos := "law.go:53", after := #[{ on := 2, ground := Ground.data }], guard := none }) rfl (fun K hK => ?_) AllReadyH.nil
    go_simp
    refine (KI.out _ (m1.trans' (by assumption))).mono ?_
    rintro e wb ⟨vb, rfl, ob, mb, nb⟩
    have hMB : Mod (fun _ => False) w1 wb := (Mod.drew _ _).trans' mb
    have SB : ∀ w', (Mod (fun _ => False) w1 w' ∧ OwnB w' w.heap.size vb D.safe) → (convert 22 9 vb).run Try.prog w' = .ok (.string ⟨D.safe.toArray⟩) w' := fun w' h => by
      obtain ⟨a, c, e, -, -, hb⟩ := h.2.shape
      rw [e]; exact run_str hb D.safe.length c rfl
    try simp only []
    refine hK.out _ _ (hMB) (fun _ => ?_)
    refine held_more (S' := fun w' => Mod (fun _ => False) w1 w' ∧ OwnB w' w.heap.size vb D.safe) (fun w' h => h.1) _ _ _ _ ?_
    have hHeld := (⟨hMB, ob⟩ : Mod (fun _ => False) w1 wb ∧ OwnB wb w.heap.size vb D.safe)
    clear hK K
    try simp only [Act.put, List.setIfInBounds_toArray, List.set_cons_zero, List.set_cons_succ]
    refine wpAnyH_take (i := 4) (oi := { dst := some 17, op := Op.convert 22 9 (Operand.tmp 16), type := 9, pos := "law.go:53", after := #[{ on := 3, ground := Ground.data }], guard := none }) (v := ?_) rfl (by kernel_rfl) (by kernel_rfl) (by kernel_rfl) (fun _ _ _ h => h) (Or.inl ⟨by rfl, ?_⟩) (by assumption) ?_
    rotate_left
    · (intro w hSw; (try dsimp only at hSw); go_simp; try with_reducible rfl)
    simp only [Act.put, List.setIfInBounds_toArray, List.set_cons_zero, List.set_cons_succ]
    refine wpAnyH_take (i := 5) (oi := { dst := some 18, op := Op.binOp BinOp.neq 9 (Operand.tmp 14) (Operand.tmp 17) 9, type := 4, pos := "law.go:53", after := #[{ on := 1, ground := Ground.data }, { on := 4, ground := Ground.data }], guard := none }) (v := ?_) rfl (by kernel_rfl) (by kernel_rfl) (by kernel_rfl) (fun _ _ _ h => h) (Or.inl ⟨by rfl, ?_⟩) (by assumption) ?_
    rotate_left
    · (intro w hSw; (try dsimp only at hSw); go_simp; try with_reducible rfl)
    simp only [Act.put, List.setIfInBounds_toArray, List.set_cons_zero, List.set_cons_succ]
    refine wpAnyH_take (i := 6) (oi := { dst := some 19, op := Op.move (Operand.tmp 18), type := 4, pos := "law.go:53", after := #[{ on := 5, ground := Ground.data }, { on := 3, ground := Ground.chain }], guard := none }) (v := ?_) rfl (by kernel_rfl) (by kernel_rfl) (by kernel_rfl) (fun _ _ _ h => h) (Or.inl ⟨by rfl, ?_⟩) (by assumption) ?_
    rotate_left
    · (intro w hSw; (try dsimp only at hSw); go_simp; try with_reducible rfl)
    simp only [Act.put, List.setIfInBounds_toArray, List.set_cons_zero, List.set_cons_succ]
    refine wpAnyH_take (i := 7) (oi := { dst := some 20, op := Op.move (Operand.tmp 0), type := 40, pos := "law.go:53", after := #[{ on := 6, ground := Ground.guard }], guard := some (6, false) }) (v := ?_) rfl (by kernel_rfl) (by kernel_rfl) (by kernel_rfl) (fun _ _ _ h => h) (Or.inl ⟨by rfl, ?_⟩) (by assumption) ?_
    rotate_left
    · (intro w hSw; (try dsimp only at hSw); go_simp; try with_reducible rfl)
    simp only [Act.put, List.setIfInBounds_toArray, List.set_cons_zero, List.set_cons_succ]
    refine wpAnyH_take (i := 9) (oi := { dst := some 22, op := Op.move (Operand.tmp 1), type := 60, pos := "law.go:53", after := #[{ on := 6, ground := Ground.guard }], guard := some (6, false) }) (v := ?_) rfl (by kernel_rfl) (by kernel_rfl) (by kernel_rfl) (fun _ _ _ h => h) (Or.inl ⟨by rfl, ?_⟩) (by assumption) ?_
    rotate_left
    · (intro w hSw; (try dsimp only at hSw); go_simp; try with_reducible rfl)
    simp only [Act.put, List.setIfInBounds_toArray, List.set_cons_zero, List.set_cons_succ]
    refine wpAnyH_take (i := 10) (oi := { dst := some 23, op := Op.nilCheck (Operand.tmp 22), type := 0, pos := "law.go:53", after := #[{ on := 9, ground := Ground.data }, { on := 6, ground := Ground.guard }], guard := some (6, false) }) (v := ?_) rfl (by kernel_rfl) (by kernel_rfl) (by kernel_rfl) (fun _ _ _ h => h) (Or.inl ⟨by rfl, ?_⟩) (by assumption) ?_
    rotate_left
    · (intro w hSw; (try dsimp only at hSw); go_simp; try with_reducible rfl)
    simp only [Act.put, List.setIfInBounds_toArray, List.set_cons_zero, List.set_cons_succ]
    refine wpAnyH_take (i := 11) (oi := { dst := some 24, op := Op.fieldAddr 69 (Operand.tmp 23) 0, type := 0, pos := "law.go:53", after := #[{ on := 10, ground := Ground.data }, { on := 6, ground := Ground.guard }], guard := some (6, false) }) (v := ?_) rfl (by kernel_rfl) (by kernel_rfl) (by kernel_rfl) (fun _ _ _ h => h) (Or.inl ⟨by rfl, ?_⟩) (by assumption) ?_
    rotate_left
    · (intro w hSw; (try dsimp only at hSw); go_simp; try with_reducible rfl)
    simp only [Act.put, List.setIfInBounds_toArray, List.set_cons_zero, List.set_cons_succ]
    refine wpAnyH_take (i := 12) (oi := { dst := some 25, op := Op.load 66 (Operand.tmp 24), type := 66, pos := "law.go:53", after := #[{ on := 11, ground := Ground.data }, { on := 6, ground := Ground.guard }], guard := some (6, false) }) (v := ?_) rfl (by kernel_rfl) (by kernel_rfl) (by kernel_rfl) (fun _ _ _ h => h) (Or.inl ⟨by rfl, ?_⟩) (by assumption) ?_
    rotate_left
    · (intro w hSw; (try dsimp only at hSw); go_simp; try with_reducible rfl)
    simp only [Act.put, List.setIfInBounds_toArray, List.set_cons_zero, List.set_cons_succ]
    refine wpAnyH_take (i := 13) (oi := { dst := some 26, op := Op.call { callee := Callee.builtin Builtin.len, args := #[Operand.tmp 25], argTypes := #[66] }, type := 3, pos := "law.go:53", after := #[{ on := 12, ground := Ground.data }, { on := 6, ground := Ground.guard }], guard := some (6, false) }) (v := ?_) rfl (by kernel_rfl) (by kernel_rfl) (by kernel_rfl) (fun _ _ _ h => h) (Or.inl ⟨by rfl, ?_⟩) (by assumption) ?_
    rotate_left
    · (intro w hSw; (try dsimp only at hSw); go_simp; try with_reducible rfl)
    simp only [Act.put, List.setIfInBounds_toArray, List.set_cons_zero, List.set_cons_succ]
    refine held_call (i := 8) (oi := { dst := some 21, op := Op.call { callee := Callee.value (Operand.func 52), args := #[Operand.tmp 20], argTypes := #[40] }, type := 3, pos := "law.go:53", after := #[{ on := 7, ground := Ground.data }, { on := 6, ground := Ground.chain }, { on := 6, ground := Ground.guard }], guard := some (6, false) }) (v := (.int .i64 (D.N : Int))) rfl (by kernel_rfl) (by kernel_rfl) (by kernel_rfl) (fun _ _ _ h => h) (by assumption) 52 #[.pointer (some ⟨p, 0, none⟩)] (by rfl) (fun w => by go_simp) (fun w hSw => KS.out _ (m1.trans' hSw.1)) ?_
    simp only [Act.put, List.setIfInBounds_toArray, List.set_cons_zero, List.set_cons_succ]
    refine wpAnyH_take (i := 14) (oi := { dst := some 27, op := Op.binOp BinOp.neq 3 (Operand.tmp 21) (Operand.tmp 26) 3, type := 4, pos := "law.go:53", after := #[{ on := 8, ground := Ground.data }, { on := 13, ground := Ground.data }, { on := 6, ground := Ground.guard }], guard := some (6, false) }) (v := ?_) rfl (by kernel_rfl) (by kernel_rfl) (by kernel_rfl) (fun _ _ _ h => h) (Or.inl ⟨by rfl, ?_⟩) (by assumption) ?_
    rotate_left
    · (intro w hSw; (try dsimp only at hSw); go_simp; try with_reducible rfl)
    simp only [Act.put, List.setIfInBounds_toArray, List.set_cons_zero, List.set_cons_succ]
    refine wpAnyH_take (i := 15) (oi := { dst := some 28, op := Op.pick (Operand.tmp 19) (Operand.const (Value.bool true)) (Operand.tmp 27), type := 4, pos := "law.go:53", after := #[{ on := 6, ground := Ground.data }, { on := 14, ground := Ground.data }], guard := none }) (v := ?_) rfl (by kernel_rfl) (by kernel_rfl) (by kernel_rfl) (fun _ _ _ h => h) (Or.inl ⟨by rfl, ?_⟩) (by assumption) ?_
    rotate_left
    · (intro w hSw; (try dsimp only at hSw); go_simp; try with_reducible rfl)
    simp only [Act.put, List.setIfInBounds_toArray, List.set_cons_zero, List.set_cons_succ]
    refine wpAnyH_take (i := 16) (oi := { dst := some 29, op := Op.move (Operand.tmp 28), type := 4, pos := "law.go:53", after := #[{ on := 15, ground := Ground.data }, { on := 8, ground := Ground.chain }], guard := none }) (v := ?_) rfl (by kernel_rfl) (by kernel_rfl) (by kernel_rfl) (fun _ _ _ h => h) (Or.inl ⟨by rfl, ?_⟩) (by assumption) ?_
    rotate_left
    · (intro w hSw; (try dsimp only at hSw); go_simp; try with_reducible rfl)
    simp only [Act.put, List.setIfInBounds_toArray, List.set_cons_zero, List.set_cons_succ]
    refine wpAnyH_take (i := 17) (oi := { dst := some 30, op := Op.move (Operand.tmp 0), type := 40, pos := "law.go:53", after := #[{ on := 16, ground := Ground.guard }], guard := some (16, false) }) (v := ?_) rfl (by kernel_rfl) (by kernel_rfl) (by kernel_rfl) (fun _ _ _ h => h) (Or.inl ⟨by rfl, ?_⟩) (by assumption) ?_
    rotate_left
    · (intro w hSw; (try dsimp only at hSw); go_simp; try with_reducible rfl)
    simp only [Act.put, List.setIfInBounds_toArray, List.set_cons_zero, List.set_cons_succ]
    refine wpAnyH_take (i := 19) (oi := { dst := some 32, op := Op.move (Operand.tmp 1), type := 60, pos := "law.go:53", after := #[{ on := 16, ground := Ground.guard }], guard := some (16, false) }) (v := ?_) rfl (by kernel_rfl) (by kernel_rfl) (by kernel_rfl) (fun _ _ _ h => h) (Or.inl ⟨by rfl, ?_⟩) (by assumption) ?_
    rotate_left
    · (intro w hSw; (try dsimp only at hSw); go_simp; try with_reducible rfl)
    simp only [Act.put, List.setIfInBounds_toArray, List.set_cons_zero, List.set_cons_succ]
    refine wpAnyH_take (i := 20) (oi := { dst := some 33, op := Op.nilCheck (Operand.tmp 32), type := 0, pos := "law.go:53", after := #[{ on := 19, ground := Ground.data }, { on := 16, ground := Ground.guard }], guard := some (16, false) }) (v := ?_) rfl (by kernel_rfl) (by kernel_rfl) (by kernel_rfl) (fun _ _ _ h => h) (Or.inl ⟨by rfl, ?_⟩) (by assumption) ?_
    rotate_left
    · (intro w hSw; (try dsimp only at hSw); go_simp; try with_reducible rfl)
    simp only [Act.put, List.setIfInBounds_toArray, List.set_cons_zero, List.set_cons_succ]
    refine wpAnyH_take (i := 21) (oi := { dst := some 34, op := Op.fieldAddr 69 (Operand.tmp 33) 1, type := 0, pos := "law.go:53", after := #[{ on := 20, ground := Ground.data }, { on := 16, ground := Ground.guard }], guard := some (16, false) }) (v := ?_) rfl (by kernel_rfl) (by kernel_rfl) (by kernel_rfl) (fun _ _ _ h => h) (Or.inl ⟨by rfl, ?_⟩) (by assumption) ?_
    rotate_left
    · (intro w hSw; (try dsimp only at hSw); go_simp; try with_reducible rfl)
    simp only [Act.put, List.setIfInBounds_toArray, List.set_cons_zero, List.set_cons_succ]
    refine wpAnyH_take (i := 22) (oi := { dst := some 35, op := Op.load 67 (Operand.tmp 34), type := 67, pos := "law.go:53", after := #[{ on := 21, ground := Ground.data }, { on := 16, ground := Ground.guard }], guard := some (16, false) }) (v := ?_) rfl (by kernel_rfl) (by kernel_rfl) (by kernel_rfl) (fun _ _ _ h => h) (Or.inl ⟨by rfl, ?_⟩) (by assumption) ?_
    rotate_left
    · (intro w hSw; (try dsimp only at hSw); go_simp; try with_reducible rfl)
    simp only [Act.put, List.setIfInBounds_toArray, List.set_cons_zero, List.set_cons_succ]
    refine wpAnyH_take (i := 23) (oi := { dst := some 36, op := Op.call { callee := Callee.builtin Builtin.len, args := #[Operand.tmp 35], argTypes := #[67] }, type := 3, pos := "law.go:53", after := #[{ on := 22, ground := Ground.data }, { on := 16, ground := Ground.guard }], guard := some (16, false) }) (v := ?_) rfl (by kernel_rfl) (by kernel_rfl) (by kernel_rfl) (fun _ _ _ h => h) (Or.inl ⟨by rfl, ?_⟩) (by assumption) ?_
    rotate_left
    · (intro w hSw; (try dsimp only at hSw); go_simp; try with_reducible rfl)
    simp only [Act.put, List.setIfInBounds_toArray, List.set_cons_zero, List.set_cons_succ]
    refine held_call (i := 18) (oi := { dst := some 31, op := Op.call { callee := Callee.value (Operand.func 39), args := #[Operand.tmp 30], argTypes := #[40] }, type := 3, pos := "law.go:53", after := #[{ on := 17, ground := Ground.data }, { on := 16, ground := Ground.chain }, { on := 16, ground := Ground.guard }], guard := some (16, false) }) (v := (.int .i64 (D.l.length : Int))) rfl (by kernel_rfl) (by kernel_rfl) (by kernel_rfl) (fun _ _ _ h => h) (by assumption) 39 #[.pointer (some ⟨p, 0, none⟩)] (by rfl) (fun w => by go_simp) (fun w hSw => KU.out _ (m1.trans' hSw.1)) ?_
    simp only [Act.put, List.setIfInBounds_toArray, List.set_cons_zero, List.set_cons_succ]
    refine wpAnyH_take (i := 24) (oi := { dst := some 37, op := Op.binOp BinOp.neq 3 (Operand.tmp 31) (Operand.tmp 36) 3, type := 4, pos := "law.go:53", after := #[{ on := 18, ground := Ground.data }, { on := 23, ground := Ground.data }, { on := 16, ground := Ground.guard }], guard := some (16, false) }) (v := ?_) rfl (by kernel_rfl) (by kernel_rfl) (by kernel_rfl) (fun _ _ _ h => h) (Or.inl ⟨by rfl, ?_⟩) (by assumption) ?_
    rotate_left
    · (intro w hSw; (try dsimp only at hSw); go_simp; try with_reducible rfl)
    simp only [Act.put, List.setIfInBounds_toArray, List.set_cons_zero, List.set_cons_succ]
    refine wpAnyH_take (i := 25) (oi := { dst := some 38, op := Op.pick (Operand.tmp 29) (Operand.const (Value.bool true)) (Operand.tmp 37), type := 4, pos := "law.go:53", after := #[{ on := 16, ground := Ground.data }, { on := 24, ground := Ground.data }], guard := none }) (v := ?_) rfl (by kernel_rfl) (by kernel_rfl) (by kernel_rfl) (fun _ _ _ h => h) (Or.inl ⟨by rfl, ?_⟩) (by assumption) ?_
    rotate_left
    · (intro w hSw; (try dsimp only at hSw); go_simp; try with_reducible rfl)
    simp only [Act.put, List.setIfInBounds_toArray, List.set_cons_zero, List.set_cons_succ]
    refine wpAnyH_take (i := 26) (oi := { dst := some 39, op := Op.move (Operand.tmp 38), type := 4, pos := "law.go:53", after := #[{ on := 25, ground := Ground.data }, { on := 18, ground := Ground.chain }], guard := none }) (v := ?_) rfl (by kernel_rfl) (by kernel_rfl) (by kernel_rfl) (fun _ _ _ h => h) (Or.inl ⟨by rfl, ?_⟩) (by assumption) ?_
    rotate_left
    · (intro w hSw; (try dsimp only at hSw); go_simp; try with_reducible rfl)
    simp only [Act.put, List.setIfInBounds_toArray, List.set_cons_zero, List.set_cons_succ]
    refine wpAnyH_take (i := 27) (oi := { dst := some 40, op := Op.move (Operand.tmp 0), type := 40, pos := "law.go:53", after := #[{ on := 26, ground := Ground.guard }], guard := some (26, false) }) (v := ?_) rfl (by kernel_rfl) (by kernel_rfl) (by kernel_rfl) (fun _ _ _ h => h) (Or.inl ⟨by rfl, ?_⟩) (by assumption) ?_
    rotate_left
    · (intro w hSw; (try dsimp only at hSw); go_simp; try with_reducible rfl)
    simp only [Act.put, List.setIfInBounds_toArray, List.set_cons_zero, List.set_cons_succ]
    refine wpAnyH_take (i := 29) (oi := { dst := some 42, op := Op.move (Operand.tmp 1), type := 60, pos := "law.go:53", after := #[{ on := 26, ground := Ground.guard }], guard := some (26, false) }) (v := ?_) rfl (by kernel_rfl) (by kernel_rfl) (by kernel_rfl) (fun _ _ _ h => h) (Or.inl ⟨by rfl, ?_⟩) (by assumption) ?_
    rotate_left
    · (intro w hSw; (try dsimp only at hSw); go_simp; try with_reducible rfl)
    simp only [Act.put, List.setIfInBounds_toArray, List.set_cons_zero, List.set_cons_succ]
    refine wpAnyH_take (i := 30) (oi := { dst := some 43, op := Op.nilCheck (Operand.tmp 42), type := 0, pos := "law.go:53", after := #[{ on := 29, ground := Ground.data }, { on := 26, ground := Ground.guard }], guard := some (26, false) }) (v := ?_) rfl (by kernel_rfl) (by kernel_rfl) (by kernel_rfl) (fun _ _ _ h => h) (Or.inl ⟨by rfl, ?_⟩) (by assumption) ?_
    rotate_left
    · (intro w hSw; (try dsimp only at hSw); go_simp; try with_reducible rfl)
    simp only [Act.put, List.setIfInBounds_toArray, List.set_cons_zero, List.set_cons_succ]
    refine wpAnyH_take (i := 31) (oi := { dst := some 44, op := Op.fieldAddr 69 (Operand.tmp 43) 4, type := 0, pos := "law.go:53", after := #[{ on := 30, ground := Ground.data }, { on := 26, ground := Ground.guard }], guard := some (26, false) }) (v := ?_) rfl (by kernel_rfl) (by kernel_rfl) (by kernel_rfl) (fun _ _ _ h => h) (Or.inl ⟨by rfl, ?_⟩) (by assumption) ?_
    rotate_left
    · (intro w hSw; (try dsimp only at hSw); go_simp; try with_reducible rfl)
    simp only [Act.put, List.setIfInBounds_toArray, List.set_cons_zero, List.set_cons_succ]
    refine wpAnyH_take (i := 32) (oi := { dst := some 45, op := Op.load 4 (Operand.tmp 44), type := 4, pos := "law.go:53", after := #[{ on := 31, ground := Ground.data }, { on := 26, ground := Ground.guard }], guard := some (26, false) }) (v := ?_) rfl (by kernel_rfl) (by kernel_rfl) (by kernel_rfl) (fun _ _ _ h => h) (Or.inl ⟨by rfl, ?_⟩) (by assumption) ?_
    rotate_left
    · (intro w hSw; (try dsimp only at hSw); go_simp; try with_reducible rfl)
    simp only [Act.put, List.setIfInBounds_toArray, List.set_cons_zero, List.set_cons_succ]
    refine held_call (i := 28) (oi := { dst := some 41, op := Op.call { callee := Callee.value (Operand.func 38), args := #[Operand.tmp 40], argTypes := #[40] }, type := 4, pos := "law.go:53", after := #[{ on := 27, ground := Ground.data }, { on := 26, ground := Ground.chain }, { on := 26, ground := Ground.guard }], guard := some (26, false) }) (v := (.bool D.gone)) rfl (by kernel_rfl) (by kernel_rfl) (by kernel_rfl) (fun _ _ _ h => h) (by assumption) 38 #[.pointer (some ⟨p, 0, none⟩)] (by rfl) (fun w => by go_simp) (fun w hSw => KD.out _ (m1.trans' hSw.1)) ?_
    simp only [Act.put, List.setIfInBounds_toArray, List.set_cons_zero, List.set_cons_succ]
    refine wpAnyH_take (i := 33) (oi := { dst := some 46, op := Op.binOp BinOp.neq 4 (Operand.tmp 41) (Operand.tmp 45) 4, type := 4, pos := "law.go:53", after := #[{ on := 28, ground := Ground.data }, { on := 32, ground := Ground.data }, { on := 26, ground := Ground.guard }], guard := some (26, false) }) (v := ?_) rfl (by kernel_rfl) (by kernel_rfl) (by kernel_rfl) (fun _ _ _ h => h) (Or.inl ⟨by rfl, ?_⟩) (by assumption) ?_
    rotate_left
    · (intro w hSw; (try dsimp only at hSw); go_simp; try with_reducible rfl)
    simp only [Act.put, List.setIfInBounds_toArray, List.set_cons_zero, List.set_cons_succ]
    refine wpAnyH_take (i := 34) (oi := { dst := some 47, op := Op.pick (Operand.tmp 39) (Operand.const (Value.bool true)) (Operand.tmp 46), type := 4, pos := "law.go:53", after := #[{ on := 26, ground := Ground.data }, { on := 33, ground := Ground.data }], guard := none }) (v := ?_) rfl (by kernel_rfl) (by kernel_rfl) (by kernel_rfl) (fun _ _ _ h => h) (Or.inl ⟨by rfl, ?_⟩) (by assumption) ?_
    rotate_left
    · (intro w hSw; (try dsimp only at hSw); go_simp; try with_reducible rfl)
    simp only [Act.put, List.setIfInBounds_toArray, List.set_cons_zero, List.set_cons_succ]
    refine wpAnyH_done (by kernel_rfl) ?_ _
    go_wp2_with fail
    go_meet
    exact ⟨rfl, hMB⟩
  case rest =>
    obtain ⟨rfl, m2⟩ := hcut
    clear C0 C1 C4 CA
    have oa2 := oa.mod m2 (fun _ _ => id)
    obtain ⟨a2, c2, ea2, -, -, -⟩ := oa2.shape
    have hle2 : w.heap.size ≤ wc.heap.size := (m1.trans' m2).size
    have hsa : D.safe.length ≤ 140737488351232 := by omega
    rw [ea2] at oa2
    subst ea2
    go_wp2_with fail
    refine (spoil_any oa2 hle2 hsa).mono ?_
    rintro e w3 ⟨rfl, m3⟩
    have m03 : Mod (fun _ => False) w w3 := (m1.trans' m2).trans m3 (fun k hk e => by have := n1 k e.symm; omega)
    clear m1 m2 m3 oa oa2 n1 c1 c4
    go_wp2_with fail
    go_loopw [6] (fun v6 wr => ∃ i : Int, -1 ≤ i ∧ i ≤ (D.N : Int) + 1 ∧ v6 = .int .i64 i ∧ Mod (fun _ => False) w wr) (fun v6 _ => ((D.N : Int) + 1 - intOf v6).toNat)
    case atStart => exact ⟨-1, by omega, by omega, rfl, m03⟩
    case round =>
      obtain ⟨i, hi1, hi2, rfl, hm⟩ := hrel
      clear m03
      have d0 := hm.cell' c0 id
      by_cases hlt : i ≤ (D.N : Int)
      · go_wp2_with fail
        refine (KR.out i _ hm).mono ?_
        rintro e w4 ⟨vb, rfl, ob, m4, n4⟩
        have hm4 := hm.trans' m4
        go_wp2_with fail
        refine (KQ.out i _ hm4).mono ?_
        rintro e w5 ⟨vq, rfl, oq, m5, n5⟩
        have ob5 := ob.mod m5 (fun _ _ => id)
        have hle5 : w.heap.size ≤ w5.heap.size := (hm4.trans' m5).size
        have hsl := hsec.out i
        generalize (if D.wrong i = 0 then sector D.now i.toNat else []) = sn at *
        obtain ⟨ab, cb, eb, -, -, hbb⟩ := ob5.shape
        obtain ⟨aq, cq, eq, -, -, hbq⟩ := oq.shape
        subst eb eq
        have SB := run_str hbb sn.length cb rfl
        have SQ := run_str hbq sn.length cq rfl
        have hsl2 : sn.length ≤ 140737488351232 := by omega
        generalize D.wrong i = we at *
        go_wp2_with fail
        refine (spoil_any ob5 hle5 hsl2).mono ?_
        rintro e w6 ⟨rfl, m6⟩
        have hm6 : Mod (fun _ => False) w w6 := (hm4.trans' m5).trans m6 (fun k hk e => by have := n4 k e.symm; have := hm.size; omega)
        go_wp2
        go_roundw
        case rel => exact ⟨i + 1, by omega, by omega, rfl, hm6⟩
        case measure => simp [intOf]; omega
      · go_wp2
        go_ret
        exact ⟨rfl, hm⟩
end Go.Proofs.Ytdinnkacilgmmaa
