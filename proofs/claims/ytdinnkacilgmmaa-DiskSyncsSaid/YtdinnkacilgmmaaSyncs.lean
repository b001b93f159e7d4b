/- DiskSyncs: the walk. -/
import Derived.Test.YtdinnkacilgmmaaGrow
namespace Go.Proofs.Ytdinnkacilgmmaa
open Go.RowKit

theorem Dsk.whySync_cases (D : Dsk) : D.whySync = 0 ∨ D.whySync = 20 ∨ D.whySync = 21 := by
  unfold Dsk.whySync; split
  · exact .inr (.inr rfl)
  split
  · exact .inr (.inl rfl)
  · exact .inl rfl
theorem Dsk.sync_ok {D : Dsk} (h : D.whySync = 0) : D.sync = { D with safe := D.now, l := [] } := by
  unfold Dsk.whySync at h; unfold Dsk.sync
  split at h
  · exact absurd h (by decide)
  split at h
  · exact absurd h (by decide)
  · rename_i h1 h2
    rw [if_neg h1, if_neg h2]
theorem Dsk.sync_no {D : Dsk} : (D.whySync ≠ 0) → D.sync.safe = D.safe := by
  intro h
  unfold Dsk.whySync at h; unfold Dsk.sync
  split
  · rfl
  split
  · rfl
  · rename_i h1 h2
    rw [if_neg h1, if_neg h2] at h
    exact absurd rfl h

/-- the disk, what was read of it, its copy -/
def TS1 (B p : Nat) (E : Dsk) (va : Value) (l : List UInt8) : List (Thg B) := [DiskT B p E, BytesT B va l]
def TS (B p c : Nat) (E C : Dsk) (va : Value) (l : List UInt8) : List (Thg B) := [DiskT B p E, BytesT B va l, DiskT B c C]
def TSa (B p c : Nat) (E C : Dsk) (va : Value) (l : List UInt8) (vi : Value) (li : List UInt8) : List (Thg B) := [DiskT B p E, BytesT B va l, DiskT B c C, BytesT B vi li]

theorem Apart.crashHere {w0 w : World} {Ts : List (Thg w0.heap.size)} {p : Nat} {D : Dsk} (h : Apart w0 w0.heap.size Ts w) (i : Nat) (hi : Ts[i]? = some (DiskT w0.heap.size p D)) (a : Option Addr) (ks : List Int) (m cap : Nat) (hm' : ks.length = m) (hk : IntsAt w0 a ks) (hm : ks.length ≤ 140737488351232) :
    Calls Try.prog 33 #[.pointer (some ⟨p, 0, none⟩), .slice a m cap] w fun e w' => e = .returned (.int .i64 0) ∧ Apart w0 w0.heap.size (Ts.set i (DiskT w0.heap.size p (D.crash ks))) w' := by
  have hkB : ∀ x, a = some x → ks ≠ [] → x.block < w0.heap.size := fun x hx hne => by
    subst hx
    obtain ⟨b', off', e, hc⟩ := hk hne
    cases e
    exact World.block_lt_of_cell? _ _ (hc 0 (List.length_pos_iff.2 hne))
  exact h.crash i hi a ks m cap hm' (hk.mod (Mod.of_below h.bel) (fun x hx hne e => by have := hkB x hx hne; omega)) hkB (by omega)

set_option maxHeartbeats 4000000 in
set_option maxRecDepth 100000 in
theorem syncs_walk (a : Option Addr) (l : List OpV) (cap : Nat) (ak : Option Addr) (ks : List Int) (capk : Nat) (w : World) (ha : OpsAt w a l) (hka : IntsAt w ak ks)
    (_h1 : l.length ≤ 140737488351232) (hks : ks.length ≤ 140737488351232) :
    Calls Try.prog 11 #[.slice a l.length cap, .slice ak ks.length capk] w fun e w' => e = .returned (.bool true) ∧ Below w.heap.size w w' := by
  have L0 : Apart w w.heap.size [] w := Apart.nil (Below.refl _ _) (Nat.le_refl _)
  go_enter Try.func11, Try.ntmps11
  go_wp2_with fail
  refine (L0.newDisk 5 (by decide) (by decide)).mono ?_
  rintro e w1 ⟨p, rfl, L1⟩
  clear L0
  replace L1 : Apart w w.heap.size [DiskT w.heap.size p (Dsk.of (List.replicate (5 * 256) 0))] w1 := L1
  go_upto_block 0 with fail
  go_cut [] (fun wx => ∃ D : Dsk, Apart w w.heap.size [DiskT w.heap.size p D] wx)
  case first =>
    go_wp2_with fail
    go_loopw [7] (fun v9 wr => ∃ (k : Nat) (D : Dsk), k ≤ l.length ∧ k ≤ 40 ∧ v9 = .int .i64 (k : Int) ∧ D.safe.length = 5 * 256 ∧ D.l = [] ∧ Apart w w.heap.size [DiskT w.heap.size p D] wr) (fun v9 _ => 40 - (intOf v9).toNat)
    case atStart => exact ⟨0, _, Nat.zero_le _, Nat.zero_le _, rfl, by show (List.replicate (5 * 256) (0 : UInt8)).length = _; rw [List.length_replicate], rfl, L1⟩
    case round =>
      obtain ⟨k, D, hk, hk6, rfl, hDs, hDl, L⟩ := hrel
      clear L1
      by_cases hlt : (k : Int) < (l.length : Int)
      · by_cases h60 : (k : Int) < 40
        · obtain ⟨bb, off, rfl, ab', cb', al, cl, q0, q1, q2, q3, r1, r2, r3, r4, r5, r6, r7⟩ := ha.here L.bel (k := k) (by omega)
          generalize l[k] = o at *
          have hwf := (L.disk 0 rfl).elim fun _ hd => hd.wf
          have hstep := hwf.step_len o
          have hl0 : D.l.length + 1 ≤ 1048576 := by rw [hDl]; decide
          have HDS := Lib.hid hDs
          have HDL := Lib.hid hDl
          clear hDs hDl ha
          go_wp2_with fail
          refine (L.doOp 0 rfl hl0 o ab' cb' al cl r1 r2 r3 r4 r5 r6 r7).mono ?_
          rintro e w2 ⟨rfl, L2⟩
          replace L2 : Apart w w.heap.size [DiskT w.heap.size p (D.step o)] w2 := L2
          have hs1 : (D.step o).safe.length = 5 * 256 := hstep.1.trans HDS.out
          clear q0 q1 q2 q3 r1 r2 r3 r4 r5 r6 r7 hstep hwf L
          generalize D.step o = D1 at *
          have hwf1 := (L2.disk 0 rfl).elim fun _ hd => hd.wf
          have hnow : D1.now.length = 5 * 256 := hwf1.now.trans hs1
          have HS1 := Lib.hid hs1
          have HNOW := Lib.hid hnow
          clear hs1 hwf1 hnow
          go_wp2_with fail
          refine (L2.sync 0 rfl).mono ?_
          rintro e w3 ⟨rfl, L3⟩
          replace L3 : Apart w w.heap.size [DiskT w.heap.size p D1.sync] w3 := L3
          clear L2
          by_cases hw : D1.whySync = 0
          · rw [Dsk.sync_ok hw] at L3
            rw [hw]
            obtain ⟨E, hE⟩ : ∃ E : Dsk, E = { D1 with safe := D1.now, l := [] } := ⟨_, rfl⟩
            have e1 : E.safe.length = 5 * 256 := by rw [hE]; exact HNOW.out
            have e2 : E.l = [] := by rw [hE]
            have e3 : E.now = E.safe := by unfold Dsk.now; rw [e2]; rfl
            have e4 : E.N = 5 := by unfold Dsk.N; rw [e1]
            rw [← hE] at L3
            have e5 : E.safe.take (5 * 256) = E.safe := List.take_of_length_le (by rw [e1]; exact Nat.le_refl _)
            have e6 : (E.crash ks).safe = E.safe := by unfold Dsk.crash; rw [e2]; rfl
            have e7 : (E.l.length : Int) = 0 := by rw [e2]; rfl
            have HE1 := Lib.hid e1
            have HE2 := Lib.hid e2
            have HE3 := Lib.hid e3
            have HE4 := Lib.hid e4
            have HE5 := Lib.hid e5
            have HE6 := Lib.hid e6
            have HE7 := Lib.hid e7
            clear hw hE e1 e2 e3 e4 e5 e6 e7
            have L4 := L3.bare
            replace L4 : Apart w w.heap.size (TS1 w.heap.size p E (.slice none 0 0) (E.safe.take (0 * 256))) w3 := by rw [Nat.zero_mul, List.take_zero]; exact L4
            clear L3
            go_wp2_with fail
            go_loopw [8, 9] (fun v8 v9 wr => ∃ n : Nat, n ≤ 5 ∧ v9 = .int .i64 (n : Int) ∧ Apart w w.heap.size (TS1 w.heap.size p E v8 (E.safe.take (n * 256))) wr) (fun _ v9 _ => 5 - (intOf v9).toNat)
            case atStart => exact ⟨0, by omega, rfl, L4⟩
            case round =>
              obtain ⟨n, hn, rfl, L5⟩ := hrel
              clear L4
              by_cases hn5 : n < 5
              · have hn5' : (n : Int) < 5 := by omega
                have hwr : E.wrong (n : Int) = 0 := by unfold Dsk.wrong; rw [HE4.out, if_neg (by omega)]
                have htl : (E.safe.take (n * 256)).length ≤ 1280 := by rw [List.length_take, HE1.out]; omega
                go_wp2_with fail
                refine (L5.read 0 rfl n).mono ?_
                rintro e w4 ⟨vb, rfl, L6⟩
                rw [hwr] at L6 ⊢
                rw [if_pos rfl, Int.toNat_natCast, HE3.out] at L6
                have hsl : (sector E.safe n).length = 256 := sector_length E.safe n 5 (by rw [HE1.out]; exact Nat.le_refl _) hn5
                have hov := L6.bytes 1 rfl
                have hob := L6.bytes 2 rfl
                obtain ⟨ab1, cb1, eb1, -, -, hbb⟩ := hob.shape
                have hna : ab1 = none → cb1 = 0 := by
                  rintro rfl
                  obtain ⟨_, _, e, _⟩ := hbb (by intro e; rw [e] at hsl; cases hsl)
                  cases e
                subst eb1
                have HTS := Lib.hid (take_sector E.safe n)
                have HSL := Lib.hid hsl
                clear hsl hob hwr
                generalize sector E.safe n = sn at *
                go_wp2_with (first
                  | (at_builtin; refine appB_at rfl _ _ rfl w.heap.size _ _ rfl hov ab1 _ cb1 sn rfl rfl hna hbb (by rw [HSL.out]; omega) L6.le ?_; intro v7 w7 ho7 hm7 hp7))
                have L7 := L6.grown 1 rfl ho7 hm7 hp7
                replace L7 : Apart w w.heap.size (TS1 w.heap.size p E v7 (E.safe.take ((n + 1) * 256))) w7 := by rw [← HTS.out]; exact L7.take 2
                clear L6 ho7 hm7 hp7 hov hbb hna
                go_wp2
                go_roundw
                case rel => exact ⟨n + 1, by omega, by go_num, L7⟩
                case measure => simp [intOf]; omega
              · obtain rfl : n = 5 := by omega
                obtain ⟨v8, hv8⟩ : ∃ v, v = u8 := ⟨_, rfl⟩
                subst hv8
                rw [HE5.out] at L5
                have hl0 : E.l.length ≤ 1048576 := by rw [HE2.out]; decide
                go_wp2_with fail
                refine (L5.copy 0 rfl hl0).mono ?_
                rintro e w4 ⟨c, rfl, L6⟩
                replace L6 : Apart w w.heap.size (TS w.heap.size p c E E v8 E.safe) w4 := L6
                clear L5
                go_upto_region 19 with fail
                have LD := L6.drew
                go_cut [76] (fun s76 wx => s76 = .bool false ∧ Apart w w.heap.size (TS w.heap.size p c E E v8 E.safe) wx)
                case first =>
                  clear L6
                  have SA : ∀ w', Apart w w.heap.size (TS w.heap.size p c E E v8 E.safe) w' → (convert 22 9 v8).run Try.prog w' = .ok (.string ⟨E.safe.toArray⟩) w' := fun w' h => h.str 1 rfl
                  refine wp_region_held_drew (S := fun w' => Apart w w.heap.size (TS w.heap.size p c E E v8 E.safe) w') (by kernel_rfl) (LD) (fun hHeld => ?_)
                  refine wpAnyH_take (i := 0) (oi := { dst := some 62, op := Op.move (Operand.tmp 12), type := 40, pos := "law.go:254", after := #[], guard := none }) (v := ?_) rfl (by kernel_rfl) (by kernel_rfl) (by kernel_rfl) (fun _ _ _ h => h) (Or.inl ⟨by rfl, ?_⟩) (by assumption) ?_
                  rotate_left
                  · (intro w hSw; (try dsimp only at hSw); go_simp; try with_reducible rfl)
                  simp only [Act.put, List.setIfInBounds_toArray, List.set_cons_zero, List.set_cons_succ]
                  refine wpAnyH_take (i := 1) (oi := { dst := some 63, op := Op.binOp BinOp.eql 40 (Operand.tmp 62) (Operand.const (Value.pointer none)) 40, type := 4, pos := "law.go:254", after := #[{ on := 0, ground := Ground.data }], guard := none }) (v := ?_) rfl (by kernel_rfl) (by kernel_rfl) (by kernel_rfl) (fun _ _ _ h => h) (Or.inl ⟨by rfl, ?_⟩) (by assumption) ?_
                  rotate_left
                  · (intro w hSw; (try dsimp only at hSw); go_simp; try with_reducible rfl)
                  simp only [Act.put, List.setIfInBounds_toArray, List.set_cons_zero, List.set_cons_succ]
                  refine wpAnyH_take (i := 2) (oi := { dst := some 64, op := Op.move (Operand.tmp 63), type := 4, pos := "law.go:254", after := #[{ on := 1, ground := Ground.data }], guard := none }) (v := ?_) rfl (by kernel_rfl) (by kernel_rfl) (by kernel_rfl) (fun _ _ _ h => h) (Or.inl ⟨by rfl, ?_⟩) (by assumption) ?_
                  rotate_left
                  · (intro w hSw; (try dsimp only at hSw); go_simp; try with_reducible rfl)
                  simp only [Act.put, List.setIfInBounds_toArray, List.set_cons_zero, List.set_cons_succ]
                  refine wpAnyH_take (i := 3) (oi := { dst := some 65, op := Op.move (Operand.tmp 5), type := 40, pos := "law.go:254", after := #[{ on := 2, ground := Ground.guard }], guard := some (2, false) }) (v := ?_) rfl (by kernel_rfl) (by kernel_rfl) (by kernel_rfl) (fun _ _ _ h => h) (Or.inl ⟨by rfl, ?_⟩) (by assumption) ?_
                  rotate_left
                  · (intro w hSw; (try dsimp only at hSw); go_simp; try with_reducible rfl)
                  simp only [Act.put, List.setIfInBounds_toArray, List.set_cons_zero, List.set_cons_succ]
                  refine wpAnyH_take (i := 6) (oi := { dst := some 68, op := Op.move (Operand.tmp 8), type := 22, pos := "law.go:254", after := #[{ on := 2, ground := Ground.guard }], guard := some (2, false) }) (v := ?_) rfl (by kernel_rfl) (by kernel_rfl) (by kernel_rfl) (fun _ _ _ h => h) (Or.inl ⟨by rfl, ?_⟩) (by assumption) ?_
                  rotate_left
                  · (intro w hSw; (try dsimp only at hSw); go_simp; try with_reducible rfl)
                  simp only [Act.put, List.setIfInBounds_toArray, List.set_cons_zero, List.set_cons_succ]
                  refine wpAnyH_take (i := 7) (oi := { dst := some 69, op := Op.convert 22 9 (Operand.tmp 68), type := 9, pos := "law.go:254", after := #[{ on := 6, ground := Ground.data }, { on := 2, ground := Ground.guard }], guard := some (2, false) }) (v := ?_) rfl (by kernel_rfl) (by kernel_rfl) (by kernel_rfl) (fun _ _ _ h => h) (Or.inl ⟨by rfl, ?_⟩) (by assumption) ?_
                  rotate_left
                  · (intro w hSw; (try dsimp only at hSw); go_simp; try with_reducible rfl)
                  simp only [Act.put, List.setIfInBounds_toArray, List.set_cons_zero, List.set_cons_succ]
                  refine wpAnyH_ready (rs := [4]) (by kernel_rfl) (by simp) ?_
                  refine AllReadyH.cons (o := { dst := some 66, op := Op.call { callee := Callee.value (Operand.func 34), args := #[Operand.tmp 65], argTypes := #[40] }, type := 22, pos := "law.go:254", after := #[{ on := 3, ground := Ground.data }, { on := 2, ground := Ground.chain }, { on := 2, ground := Ground.guard }], guard := some (2, false) }) rfl (fun K hK => ?_) AllReadyH.nil
                  go_simp
                  refine (Apart.image hHeld 0 rfl).mono ?_
                  rintro e wa ⟨vi, rfl, LA⟩
                  have SI : ∀ w', Apart w w.heap.size (TSa w.heap.size p c E E v8 E.safe vi E.safe) w' → (convert 22 9 vi).run Try.prog w' = .ok (.string ⟨E.safe.toArray⟩) w' := fun w' h => h.str 3 rfl
                  have SA : ∀ w', Apart w w.heap.size (TSa w.heap.size p c E E v8 E.safe vi E.safe) w' → (convert 22 9 v8).run Try.prog w' = .ok (.string ⟨E.safe.toArray⟩) w' := fun w' h => h.str 1 rfl
                  try simp only []
                  refine hK.out _ _ (LA.take 3) (fun _ => ?_)
                  refine held_more (S' := fun w' => Apart w w.heap.size (TSa w.heap.size p c E E v8 E.safe vi E.safe) w') (fun w' h => h.take 3) _ _ _ _ ?_
                  have hHeld := LA
                  clear hK K
                  try simp only [Act.put, List.setIfInBounds_toArray, List.set_cons_zero, List.set_cons_succ]
                  refine wpAnyH_take (i := 5) (oi := { dst := some 67, op := Op.convert 22 9 (Operand.tmp 66), type := 9, pos := "law.go:254", after := #[{ on := 4, ground := Ground.data }, { on := 2, ground := Ground.guard }], guard := some (2, false) }) (v := ?_) rfl (by kernel_rfl) (by kernel_rfl) (by kernel_rfl) (fun _ _ _ h => h) (Or.inl ⟨by rfl, ?_⟩) (by assumption) ?_
                  rotate_left
                  · (intro w hSw; (try dsimp only at hSw); go_simp; try with_reducible rfl)
                  simp only [Act.put, List.setIfInBounds_toArray, List.set_cons_zero, List.set_cons_succ]
                  refine wpAnyH_take (i := 8) (oi := { dst := some 70, op := Op.binOp BinOp.neq 9 (Operand.tmp 67) (Operand.tmp 69) 9, type := 4, pos := "law.go:254", after := #[{ on := 5, ground := Ground.data }, { on := 7, ground := Ground.data }, { on := 2, ground := Ground.guard }], guard := some (2, false) }) (v := ?_) rfl (by kernel_rfl) (by kernel_rfl) (by kernel_rfl) (fun _ _ _ h => h) (Or.inl ⟨by rfl, ?_⟩) (by assumption) ?_
                  rotate_left
                  · (intro w hSw; (try dsimp only at hSw); go_simp; try with_reducible rfl)
                  simp only [Act.put, List.setIfInBounds_toArray, List.set_cons_zero, List.set_cons_succ]
                  refine wpAnyH_take (i := 9) (oi := { dst := some 71, op := Op.pick (Operand.tmp 64) (Operand.const (Value.bool true)) (Operand.tmp 70), type := 4, pos := "law.go:254", after := #[{ on := 2, ground := Ground.data }, { on := 8, ground := Ground.data }], guard := none }) (v := ?_) rfl (by kernel_rfl) (by kernel_rfl) (by kernel_rfl) (fun _ _ _ h => h) (Or.inl ⟨by rfl, ?_⟩) (by assumption) ?_
                  rotate_left
                  · (intro w hSw; (try dsimp only at hSw); go_simp; try with_reducible rfl)
                  simp only [Act.put, List.setIfInBounds_toArray, List.set_cons_zero, List.set_cons_succ]
                  refine wpAnyH_take (i := 10) (oi := { dst := some 72, op := Op.move (Operand.tmp 71), type := 4, pos := "law.go:254", after := #[{ on := 9, ground := Ground.data }, { on := 4, ground := Ground.chain }], guard := none }) (v := ?_) rfl (by kernel_rfl) (by kernel_rfl) (by kernel_rfl) (fun _ _ _ h => h) (Or.inl ⟨by rfl, ?_⟩) (by assumption) ?_
                  rotate_left
                  · (intro w hSw; (try dsimp only at hSw); go_simp; try with_reducible rfl)
                  simp only [Act.put, List.setIfInBounds_toArray, List.set_cons_zero, List.set_cons_succ]
                  refine wpAnyH_take (i := 11) (oi := { dst := some 73, op := Op.move (Operand.tmp 5), type := 40, pos := "law.go:254", after := #[{ on := 10, ground := Ground.guard }], guard := some (10, false) }) (v := ?_) rfl (by kernel_rfl) (by kernel_rfl) (by kernel_rfl) (fun _ _ _ h => h) (Or.inl ⟨by rfl, ?_⟩) (by assumption) ?_
                  rotate_left
                  · (intro w hSw; (try dsimp only at hSw); go_simp; try with_reducible rfl)
                  simp only [Act.put, List.setIfInBounds_toArray, List.set_cons_zero, List.set_cons_succ]
                  refine held_call (i := 12) (oi := { dst := some 74, op := Op.call { callee := Callee.value (Operand.func 39), args := #[Operand.tmp 73], argTypes := #[40] }, type := 3, pos := "law.go:254", after := #[{ on := 11, ground := Ground.data }, { on := 10, ground := Ground.chain }, { on := 10, ground := Ground.guard }], guard := some (10, false) }) (v := (.int .i64 0)) rfl (by kernel_rfl) (by kernel_rfl) (by kernel_rfl) (fun _ _ _ h => h) (by assumption) 39 #[.pointer (some ⟨p, 0, none⟩)] (by rfl) (fun w => by go_simp) (fun w hSw => Apart.unsynced hSw 0 rfl _ HE7.out) ?_
                  simp only [Act.put, List.setIfInBounds_toArray, List.set_cons_zero, List.set_cons_succ]
                  refine wpAnyH_take (i := 13) (oi := { dst := some 75, op := Op.binOp BinOp.neq 3 (Operand.tmp 74) (Operand.const (Value.int IntKind.i64 0)) 3, type := 4, pos := "law.go:254", after := #[{ on := 12, ground := Ground.data }, { on := 10, ground := Ground.guard }], guard := some (10, false) }) (v := ?_) rfl (by kernel_rfl) (by kernel_rfl) (by kernel_rfl) (fun _ _ _ h => h) (Or.inl ⟨by rfl, ?_⟩) (by assumption) ?_
                  rotate_left
                  · (intro w hSw; (try dsimp only at hSw); go_simp; try with_reducible rfl)
                  simp only [Act.put, List.setIfInBounds_toArray, List.set_cons_zero, List.set_cons_succ]
                  refine wpAnyH_take (i := 14) (oi := { dst := some 76, op := Op.pick (Operand.tmp 72) (Operand.const (Value.bool true)) (Operand.tmp 75), type := 4, pos := "law.go:254", after := #[{ on := 10, ground := Ground.data }, { on := 13, ground := Ground.data }], guard := none }) (v := ?_) rfl (by kernel_rfl) (by kernel_rfl) (by kernel_rfl) (fun _ _ _ h => h) (Or.inl ⟨by rfl, ?_⟩) (by assumption) ?_
                  rotate_left
                  · (intro w hSw; (try dsimp only at hSw); go_simp; try with_reducible rfl)
                  simp only [Act.put, List.setIfInBounds_toArray, List.set_cons_zero, List.set_cons_succ]
                  refine wpAnyH_done (by kernel_rfl) ?_ _
                  go_wp2_with fail
                  go_meet
                  exact ⟨rfl, hHeld.take 3⟩
                case rest =>
                  obtain ⟨rfl, L7⟩ := hcut
                  clear L6 LD
                  go_wp2_with fail
                  refine (L7.crashHere 2 rfl ak ks _ capk rfl hka hks).mono ?_
                  rintro e w5 ⟨rfl, L8⟩
                  replace L8 : Apart w w.heap.size (TS w.heap.size p c E (E.crash ks) v8 E.safe) w5 := L8
                  clear L7
                  generalize hCC : E.crash ks = C at *
                  have HCC := Lib.hid hCC
                  clear hCC
                  go_upto_region 22 with fail
                  have LD := L8.drew
                  go_cut [85] (fun s85 wx => s85 = .bool false ∧ Apart w w.heap.size (TS w.heap.size p c E C v8 E.safe) wx)
                  case first =>
                    clear L8
                    have SA : ∀ w', Apart w w.heap.size (TS w.heap.size p c E C v8 E.safe) w' → (convert 22 9 v8).run Try.prog w' = .ok (.string ⟨E.safe.toArray⟩) w' := fun w' h => h.str 1 rfl
                    refine wp_region_held_drew (S := fun w' => Apart w w.heap.size (TS w.heap.size p c E C v8 E.safe) w') (by kernel_rfl) (LD) (fun hHeld => ?_)
                    refine wpAnyH_take (i := 0) (oi := { dst := some 80, op := Op.move (Operand.tmp 12), type := 40, pos := "law.go:258", after := #[], guard := none }) (v := ?_) rfl (by kernel_rfl) (by kernel_rfl) (by kernel_rfl) (fun _ _ _ h => h) (Or.inl ⟨by rfl, ?_⟩) (by assumption) ?_
                    rotate_left
                    · (intro w hSw; (try dsimp only at hSw); go_simp; try with_reducible rfl)
                    simp only [Act.put, List.setIfInBounds_toArray, List.set_cons_zero, List.set_cons_succ]
                    refine wpAnyH_take (i := 3) (oi := { dst := some 83, op := Op.move (Operand.tmp 8), type := 22, pos := "law.go:258", after := #[], guard := none }) (v := ?_) rfl (by kernel_rfl) (by kernel_rfl) (by kernel_rfl) (fun _ _ _ h => h) (Or.inl ⟨by rfl, ?_⟩) (by assumption) ?_
                    rotate_left
                    · (intro w hSw; (try dsimp only at hSw); go_simp; try with_reducible rfl)
                    simp only [Act.put, List.setIfInBounds_toArray, List.set_cons_zero, List.set_cons_succ]
                    refine wpAnyH_take (i := 4) (oi := { dst := some 84, op := Op.convert 22 9 (Operand.tmp 83), type := 9, pos := "law.go:258", after := #[{ on := 3, ground := Ground.data }], guard := none }) (v := ?_) rfl (by kernel_rfl) (by kernel_rfl) (by kernel_rfl) (fun _ _ _ h => h) (Or.inl ⟨by rfl, ?_⟩) (by assumption) ?_
                    rotate_left
                    · (intro w hSw; (try dsimp only at hSw); go_simp; try with_reducible rfl)
                    simp only [Act.put, List.setIfInBounds_toArray, List.set_cons_zero, List.set_cons_succ]
                    refine wpAnyH_ready (rs := [1]) (by kernel_rfl) (by simp) ?_
                    refine AllReadyH.cons (o := { dst := some 81, op := Op.call { callee := Callee.value (Operand.func 34), args := #[Operand.tmp 80], argTypes := #[40] }, type := 22, pos := "law.go:258", after := #[{ on := 0, ground := Ground.data }], guard := none }) rfl (fun K hK => ?_) AllReadyH.nil
                    go_simp
                    refine (Apart.image hHeld 2 rfl).mono ?_
                    rintro e wa ⟨vi, rfl, LA⟩
                    rw [HE6.out] at LA
                    have SI : ∀ w', Apart w w.heap.size (TSa w.heap.size p c E C v8 E.safe vi E.safe) w' → (convert 22 9 vi).run Try.prog w' = .ok (.string ⟨E.safe.toArray⟩) w' := fun w' h => h.str 3 rfl
                    have SA : ∀ w', Apart w w.heap.size (TSa w.heap.size p c E C v8 E.safe vi E.safe) w' → (convert 22 9 v8).run Try.prog w' = .ok (.string ⟨E.safe.toArray⟩) w' := fun w' h => h.str 1 rfl
                    try simp only []
                    refine hK.out _ _ (LA.take 3) (fun _ => ?_)
                    refine held_more (S' := fun w' => Apart w w.heap.size (TSa w.heap.size p c E C v8 E.safe vi E.safe) w') (fun w' h => h.take 3) _ _ _ _ ?_
                    have hHeld := LA
                    clear hK K
                    try simp only [Act.put, List.setIfInBounds_toArray, List.set_cons_zero, List.set_cons_succ]
                    refine wpAnyH_take (i := 2) (oi := { dst := some 82, op := Op.convert 22 9 (Operand.tmp 81), type := 9, pos := "law.go:258", after := #[{ on := 1, ground := Ground.data }], guard := none }) (v := ?_) rfl (by kernel_rfl) (by kernel_rfl) (by kernel_rfl) (fun _ _ _ h => h) (Or.inl ⟨by rfl, ?_⟩) (by assumption) ?_
                    rotate_left
                    · (intro w hSw; (try dsimp only at hSw); go_simp; try with_reducible rfl)
                    simp only [Act.put, List.setIfInBounds_toArray, List.set_cons_zero, List.set_cons_succ]
                    refine wpAnyH_take (i := 5) (oi := { dst := some 85, op := Op.binOp BinOp.neq 9 (Operand.tmp 82) (Operand.tmp 84) 9, type := 4, pos := "law.go:258", after := #[{ on := 2, ground := Ground.data }, { on := 4, ground := Ground.data }], guard := none }) (v := ?_) rfl (by kernel_rfl) (by kernel_rfl) (by kernel_rfl) (fun _ _ _ h => h) (Or.inl ⟨by rfl, ?_⟩) (by assumption) ?_
                    rotate_left
                    · (intro w hSw; (try dsimp only at hSw); go_simp; try with_reducible rfl)
                    simp only [Act.put, List.setIfInBounds_toArray, List.set_cons_zero, List.set_cons_succ]
                    refine wpAnyH_done (by kernel_rfl) ?_ _
                    go_wp2_with fail
                    go_meet
                    exact ⟨rfl, hHeld.take 3⟩
                  case rest =>
                    obtain ⟨rfl, L9⟩ := hcut
                    clear L8 LD
                    have L10 := L9.take 1
                    go_wp2
                    go_roundw
                    case rel => exact ⟨k + 1, E, by omega, by omega, by go_num, HE1.out, HE2.out, L10⟩
                    case measure => simp [intOf]; omega
          · have hsz : D1.sync.safe.length = 5 * 256 := by rw [Dsk.sync_no hw]; exact HS1.out
            have hne : (D1.whySync != 0) = true := by rw [bne_iff_ne]; exact hw
            have HSZ := Lib.hid hsz
            have hwf := (L3.disk 0 rfl).elim fun _ hd => hd.wf
            have hcl := (hwf.crash_len ks).1.trans hsz
            have HCL := Lib.hid hcl
            clear hsz hwf hcl hw
            go_wp2_with fail
            refine (L3.crashHere 0 rfl ak ks _ capk rfl hka hks).mono ?_
            rintro e w4 ⟨rfl, L4⟩
            go_wp2
            go_roundw
            case rel => exact ⟨k + 1, D1.sync.crash ks, by omega, by omega, by go_num, HCL.out, rfl, L4⟩
            case measure => simp [intOf]; omega
        · go_wp2
          go_meet
          exact ⟨D, L⟩
      · go_wp2
        go_meet
        exact ⟨D, L⟩
  case rest =>
    obtain ⟨D, L⟩ := hcut
    clear L1
    go_wp2_with fail
    refine L.known3.mono ?_
    rintro e w4 ⟨rfl, L4⟩
    go_wp2
    go_ret
    exact ⟨rfl, L4.bel⟩

theorem syncs_all (W : World) {v0 v1 : Value} {l0 : List OpV} {l1 : List Int} (o0 : RdO W v0 l0) (o1 : RdL W v1 l1) :
    Calls Try.prog 11 #[v0, v1] W fun e w' => e = .returned (.bool true) ∧ Below W.heap.size W w' := by
  obtain ⟨a, c, rfl, h0, m0⟩ := o0
  obtain ⟨a1, c1, rfl, h1, m1⟩ := o1
  exact syncs_walk a l0 c a1 l1 c1 W h0 h1 m0 m1
end Go.Proofs.Ytdinnkacilgmmaa
