/- DiskCopies: the walk. -/
import Derived.Test.YtdinnkacilgmmaaCopy
namespace Go.Proofs.Ytdinnkacilgmmaa
open Go.RowKit

/-- the disk, its copy, and another copy -/
def TC (B p c x : Nat) (E X : Dsk) : List (Thg B) := [DiskT B p E, DiskT B c E, DiskT B x X]
def TCa (B p c x : Nat) (E X : Dsk) (va : Value) : List (Thg B) := [DiskT B p E, DiskT B c E, DiskT B x X, BytesT B va E.safe]
def TCb (B p c x : Nat) (E X : Dsk) (va vb : Value) : List (Thg B) := [DiskT B p E, DiskT B c E, DiskT B x X, BytesT B va E.safe, BytesT B vb E.safe]
def TC2 (B p c x : Nat) (E E' X : Dsk) : List (Thg B) := [DiskT B p E, DiskT B c E', DiskT B x X]

theorem Apart.cellAt {w0 w : World} {Ts : List (Thg w0.heap.size)} (h : Apart w0 w0.heap.size Ts w) {a : Addr} {v : Value} (hc : w0.cell? a = some v) : w.cell? a = some v :=
  (h.bel.cell (p := a) (World.block_lt_of_cell? _ _ hc)).trans hc

/-- a call of a script, at whatever world -/
theorem Apart.doHere {w0 w : World} {Ts : List (Thg w0.heap.size)} {p : Nat} {D : Dsk} (h : Apart w0 w0.heap.size Ts w) (i : Nat) (hi : Ts[i]? = some (DiskT w0.heap.size p D)) (hlim : D.l.length + 1 ≤ 1048576) (o : OpV) (ab : Option Addr) (cb : Nat) (al : Option Addr) (cl : Nat)
    (hb : BytesAt w0 ab o.b) (hab : ab = none → cb = 0) (hl : IntsAt w0 al o.l) (hm : o.b.length ≤ 140737488351232) (hml : o.l.length ≤ 140737488351232)
    (hbB : ∀ x, ab = some x → o.b ≠ [] → x.block < w0.heap.size) (hlB : ∀ x, al = some x → o.l ≠ [] → x.block < w0.heap.size) :
    Calls Try.prog 32 #[.pointer (some ⟨p, 0, none⟩), .agg #[.int .i64 o.kind, .int .i64 o.n, .slice ab o.b.length cb, .slice al o.l.length cl]] w fun e w' =>
      e = .returned (.int .i64 (D.doCode o)) ∧ Apart w0 w0.heap.size (Ts.set i (DiskT w0.heap.size p (D.step o))) w' :=
  h.doOp i hi hlim o ab cb al cl (hb.below h.bel hbB) hab (hl.mod (Mod.of_below h.bel) (fun x hx hne e => by have := hlB x hx hne; omega)) hm hml hbB hlB

set_option maxHeartbeats 4000000 in
set_option maxRecDepth 100000 in
theorem copies_walk (a : Option Addr) (l : List OpV) (cap : Nat) (am : Option Addr) (lm : List OpV) (capm : Nat) (ao : Option Addr) (lo : List OpV) (capo : Nat) (w : World) (ha : OpsAt w a l) (hma : OpsAt w am lm) (hoa : OpsAt w ao lo)
    (_h1 : l.length ≤ 140737488351232) (_h2 : lm.length ≤ 140737488351232) (_h3 : lo.length ≤ 140737488351232) :
    Calls Try.prog 14 #[.slice a l.length cap, .slice am lm.length capm, .slice ao lo.length capo] w fun e w' => e = .returned (.bool true) ∧ Below w.heap.size w w' := by
  have L0 : Apart w w.heap.size [] w := Apart.nil (Below.refl _ _) (Nat.le_refl _)
  go_enter Try.func14, Try.ntmps14
  go_wp2_with fail
  refine (L0.newDisk 5 (by decide) (by decide)).mono ?_
  rintro e w1 ⟨p, rfl, L1⟩
  clear L0
  replace L1 : Apart w w.heap.size [DiskT w.heap.size p (Dsk.of (List.replicate (5 * 256) 0))] w1 := L1
  go_upto_block 0 with fail
  go_cut [] (fun wx => ∃ D : Dsk, D.safe.length = 5 * 256 ∧ D.l.length ≤ 40 ∧ Apart w w.heap.size [DiskT w.heap.size p D] wx)
  case first =>
    go_wp2_with fail
    go_loopw [9] (fun v9 wr => ∃ (k : Nat) (D : Dsk), k ≤ l.length ∧ k ≤ 40 ∧ v9 = .int .i64 (k : Int) ∧ D.safe.length = 5 * 256 ∧ D.l.length ≤ k ∧ Apart w w.heap.size [DiskT w.heap.size p D] wr) (fun v9 _ => 40 - (intOf v9).toNat)
    case atStart => exact ⟨0, _, Nat.zero_le _, Nat.zero_le _, rfl, by show (List.replicate (5 * 256) (0 : UInt8)).length = _; rw [List.length_replicate], Nat.zero_le _, L1⟩
    case round =>
      obtain ⟨k, D, hk, hk6, rfl, hDs, hDl, L⟩ := hrel
      by_cases hlt : (k : Int) < (l.length : Int)
      · by_cases h60 : (k : Int) < 40
        · obtain ⟨bb, off, rfl, ab', cb', al, cl, q0, q1, q2, q3, r1, r2, r3, r4, r5, r6, r7⟩ := ha.here L.bel (k := k) (by omega)
          generalize l[k] = o at *
          have hwf := (L.disk 0 rfl).elim fun _ hd => hd.wf
          have hstep := hwf.step_len o
          go_wp2_with fail
          refine (L.doOp 0 rfl (by omega) o ab' cb' al cl r1 r2 r3 r4 r5 r6 r7).mono ?_
          rintro e w2 ⟨rfl, L2⟩
          go_wp2
          go_roundw
          case rel => exact ⟨k + 1, D.step o, by omega, by omega, by go_num, hstep.1.trans hDs, by have := hstep.2; omega, L2⟩
          case measure => simp [intOf]; omega
        · go_wp2
          go_meet
          exact ⟨D, hDs, by omega, L⟩
      · go_wp2
        go_meet
        exact ⟨D, hDs, by omega, L⟩
  case rest =>
    obtain ⟨D, hDs, hDl, L⟩ := hcut
    clear L1
    have hlim : D.l.length ≤ 1048576 := by omega
    have HDS := Lib.hid hDs
    clear hDs
    go_wp2_with fail
    refine (L.copy 0 rfl hlim).mono ?_
    rintro e w2 ⟨c, rfl, L2⟩
    replace L2 : Apart w w.heap.size [DiskT w.heap.size p D, DiskT w.heap.size c D] w2 := L2
    clear L
    go_wp2_with fail
    refine (L2.copy 0 rfl hlim).mono ?_
    rintro e w3 ⟨x, rfl, L3⟩
    replace L3 : Apart w w.heap.size (TC w.heap.size p c x D D) w3 := L3
    clear L2
    go_upto_block 2 with fail
    go_cut [] (fun wx => ∃ X : Dsk, Apart w w.heap.size (TC w.heap.size p c x D X) wx)
    case first =>
      go_wp2_with fail
      go_loopw [12] (fun v9 wr => ∃ (k : Nat) (X : Dsk), k ≤ lo.length ∧ k ≤ 40 ∧ v9 = .int .i64 (k : Int) ∧ X.l.length ≤ 40 + k ∧ Apart w w.heap.size (TC w.heap.size p c x D X) wr) (fun v9 _ => 40 - (intOf v9).toNat)
      case atStart => exact ⟨0, D, Nat.zero_le _, Nat.zero_le _, rfl, by omega, L3⟩
      case round =>
        obtain ⟨k, X, hk, hk6, rfl, hXl, L⟩ := hrel
        by_cases hlt : (k : Int) < (lo.length : Int)
        · by_cases h60 : (k : Int) < 40
          · obtain ⟨bb, off, rfl, ab', cb', al, cl, q0, q1, q2, q3, r1, r2, r3, r4, r5, r6, r7⟩ := hoa.here L.bel (k := k) (by omega)
            generalize lo[k] = o at *
            have hwf := (L.disk 2 rfl).elim fun _ hd => hd.wf
            have hstep := hwf.step_len o
            go_wp2_with fail
            refine (L.doOp 2 rfl (by omega) o ab' cb' al cl r1 r2 r3 r4 r5 r6 r7).mono ?_
            rintro e w4 ⟨rfl, L4⟩
            go_wp2
            go_roundw
            case rel => exact ⟨k + 1, X.step o, by omega, by omega, by go_num, by have := hstep.2; omega, L4⟩
            case measure => simp [intOf]; omega
          · go_wp2
            go_meet
            exact ⟨X, L⟩
        · go_wp2
          go_meet
          exact ⟨X, L⟩
    case rest =>
      obtain ⟨X, L⟩ := hcut
      clear L3
      go_upto_block 4 with fail
      go_cut [] (fun wx => ∃ E : Dsk, Apart w w.heap.size (TC w.heap.size p c x E X) wx)
      case first =>
        go_wp2_with fail
        go_loopw [13] (fun v9 wr => ∃ (k : Nat) (E : Dsk), k ≤ lm.length ∧ k ≤ 40 ∧ v9 = .int .i64 (k : Int) ∧ E.l.length ≤ 40 + k ∧ Apart w w.heap.size (TC w.heap.size p c x E X) wr) (fun v9 _ => 40 - (intOf v9).toNat)
        case atStart => exact ⟨0, D, Nat.zero_le _, Nat.zero_le _, rfl, by omega, L⟩
        case round =>
          obtain ⟨k, E, hk, hk6, rfl, hEl, L4⟩ := hrel
          clear L
          by_cases hlt : (k : Int) < (lm.length : Int)
          · by_cases h60 : (k : Int) < 40
            · obtain ⟨bb, off, rfl, ab', cb', al, cl, q0, q1, q2, q3, r1, r2, r3, r4, r5, r6, r7⟩ := hma.here (Below.refl _ _) (k := k) (by omega)
              generalize lm[k] = o at *
              have hwf := (L4.disk 0 rfl).elim fun _ hd => hd.wf
              have hstep := hwf.step_len o
              have hl1 : E.l.length + 1 ≤ 1048576 := by omega
              have hsz := hstep.2
              have KC : ∀ w', Apart w w.heap.size (TC w.heap.size p c x E X) w' → Calls Try.prog 32 #[.pointer (some ⟨c, 0, none⟩), .agg #[.int .i64 o.kind, .int .i64 o.n, .slice ab' o.b.length cb', .slice al o.l.length cl]] w' fun e w'' => e = .returned (.int .i64 (E.doCode o)) ∧ Apart w w.heap.size (TC2 w.heap.size p c x E (E.step o) X) w'' := fun w' h => h.doHere 1 rfl hl1 o ab' cb' al cl r1 r2 r3 r4 r5 r6 r7
              have KD : ∀ w', Apart w w.heap.size (TC w.heap.size p c x E X) w' → Calls Try.prog 32 #[.pointer (some ⟨p, 0, none⟩), .agg #[.int .i64 o.kind, .int .i64 o.n, .slice ab' o.b.length cb', .slice al o.l.length cl]] w' fun e w'' => e = .returned (.int .i64 (E.doCode o)) ∧ Apart w w.heap.size (TC2 w.heap.size p c x (E.step o) E X) w'' := fun w' h => h.doHere 0 rfl hl1 o ab' cb' al cl r1 r2 r3 r4 r5 r6 r7
              have KC2 : ∀ w', Apart w w.heap.size (TC2 w.heap.size p c x (E.step o) E X) w' → Calls Try.prog 32 #[.pointer (some ⟨c, 0, none⟩), .agg #[.int .i64 o.kind, .int .i64 o.n, .slice ab' o.b.length cb', .slice al o.l.length cl]] w' fun e w'' => e = .returned (.int .i64 (E.doCode o)) ∧ Apart w w.heap.size (TC w.heap.size p c x (E.step o) X) w'' := fun w' h => h.doHere 1 rfl hl1 o ab' cb' al cl r1 r2 r3 r4 r5 r6 r7
              have KD2 : ∀ w', Apart w w.heap.size (TC2 w.heap.size p c x E (E.step o) X) w' → Calls Try.prog 32 #[.pointer (some ⟨p, 0, none⟩), .agg #[.int .i64 o.kind, .int .i64 o.n, .slice ab' o.b.length cb', .slice al o.l.length cl]] w' fun e w'' => e = .returned (.int .i64 (E.doCode o)) ∧ Apart w w.heap.size (TC w.heap.size p c x (E.step o) X) w'' := fun w' h => h.doHere 0 rfl hl1 o ab' cb' al cl r1 r2 r3 r4 r5 r6 r7
              have KC := Lib.hid KC
              have KD := Lib.hid KD
              have KC2 := Lib.hid KC2
              have KD2 := Lib.hid KD2
              have KK : ∀ T w', Apart w w.heap.size T w' → w'.cell? ⟨bb, off + k * 4, none⟩ = some (.int .i64 o.kind) ∧ w'.cell? ⟨bb, off + k * 4 + 1, none⟩ = some (.int .i64 o.n) ∧ w'.cell? ⟨bb, off + k * 4 + 2, none⟩ = some (.slice ab' o.b.length cb') ∧ w'.cell? ⟨bb, off + k * 4 + 3, none⟩ = some (.slice al o.l.length cl) := fun T w' h => ⟨h.cellAt q0, h.cellAt q1, h.cellAt q2, h.cellAt q3⟩
              have KK := Lib.hid KK
              clear q0 q1 q2 q3 r1 r2 r3 r4 r5 r6 r7 hstep hwf hma
              go_upto_region 19 with fail
              have LD := L4.drew
              clear L4
              go_cut [88] (fun s88 wx => s88 = .bool false ∧ Apart w w.heap.size (TC w.heap.size p c x (E.step o) X) wx)
              case first =>
                go_region_held3 (fun w' => w'.cell? ⟨bb, off + k * 4, none⟩ = some (.int .i64 o.kind) ∧ w'.cell? ⟨bb, off + k * 4 + 1, none⟩ = some (.int .i64 o.n) ∧ w'.cell? ⟨bb, off + k * 4 + 2, none⟩ = some (.slice ab' o.b.length cb') ∧ w'.cell? ⟨bb, off + k * 4 + 3, none⟩ = some (.slice al o.l.length cl)) (exact KK.out _ _ (by assumption))
                  (first
                    | (go_at_call 32; (with_reducible refine (KC.out _ (by assumption)).mono ?_); rintro e wa ⟨rfl, LA⟩)
                    | (go_at_call 32; (with_reducible refine (KD.out _ (by assumption)).mono ?_); rintro e wa ⟨rfl, LA⟩)
                    | (go_at_call 32; (with_reducible refine (KC2.out _ (by assumption)).mono ?_); rintro e wb ⟨rfl, LB⟩)
                    | (go_at_call 32; (with_reducible refine (KD2.out _ (by assumption)).mono ?_); rintro e wb ⟨rfl, LB⟩))
                all_goals
                  go_wp2_with fail
                  go_meet
                  exact ⟨rfl, LB⟩
              case rest =>
                obtain ⟨rfl, L5⟩ := hcut
                go_wp2
                go_roundw
                case rel => exact ⟨k + 1, E.step o, by omega, by omega, by go_num, by omega, L5⟩
                case measure => simp [intOf]; omega
            · go_wp2
              go_meet
              exact ⟨E, L4⟩
          · go_wp2
            go_meet
            exact ⟨E, L4⟩
      case rest =>
        obtain ⟨E, L5⟩ := hcut
        clear L
        go_upto_region 21 with fail
        have LD := L5.drew
        clear L5
        refine wp_region_held_drew (S := fun w' => Apart w w.heap.size (TC w.heap.size p c x E X) w') (by kernel_rfl) (LD) (fun hHeld => ?_)
        refine wpAnyH_take (i := 0) (oi := { dst := some 89, op := Op.move (Operand.tmp 10), type := 40, pos := "law.go:230", after := #[], guard := none }) (v := ?_) rfl (by kernel_rfl) (by kernel_rfl) (by kernel_rfl) (fun _ _ _ h => h) (Or.inl ⟨by rfl, ?_⟩) (by assumption) ?_
        rotate_left
        · (intro w hSw; (try dsimp only at hSw); go_simp; try with_reducible rfl)
        simp only [Act.put, List.setIfInBounds_toArray, List.set_cons_zero, List.set_cons_succ]
        refine wpAnyH_take (i := 3) (oi := { dst := some 92, op := Op.move (Operand.tmp 7), type := 40, pos := "law.go:230", after := #[], guard := none }) (v := ?_) rfl (by kernel_rfl) (by kernel_rfl) (by kernel_rfl) (fun _ _ _ h => h) (Or.inl ⟨by rfl, ?_⟩) (by assumption) ?_
        rotate_left
        · (intro w hSw; (try dsimp only at hSw); go_simp; try with_reducible rfl)
        simp only [Act.put, List.setIfInBounds_toArray, List.set_cons_zero, List.set_cons_succ]
        refine wpAnyH_ready (rs := [1]) (by kernel_rfl) (by simp) ?_
        refine AllReadyH.cons (o := { dst := some 90, op := Op.call { callee := Callee.value (Operand.func 34), args := #[Operand.tmp 89], argTypes := #[40] }, type := 22, pos := "law.go:230", after := #[{ on := 0, ground := Ground.data }], guard := none }) rfl (fun K hK => ?_) AllReadyH.nil
        go_simp
        refine (Apart.image hHeld 1 rfl).mono ?_
        rintro e wa ⟨va, rfl, LA⟩
        have SA : ∀ w', Apart w w.heap.size (TCa w.heap.size p c x E X va) w' → (convert 22 9 va).run Try.prog w' = .ok (.string ⟨E.safe.toArray⟩) w' := fun w' h => h.str 3 rfl
        try simp only []
        refine hK.out _ _ (LA.take 3) (fun _ => ?_)
        refine held_more (S' := fun w' => Apart w w.heap.size (TCa w.heap.size p c x E X va) w') (fun w' h => h.take 3) _ _ _ _ ?_
        have hHeld := LA
        clear hK K
        try simp only [Act.put, List.setIfInBounds_toArray, List.set_cons_zero, List.set_cons_succ]
        refine wpAnyH_take (i := 2) (oi := { dst := some 91, op := Op.convert 22 9 (Operand.tmp 90), type := 9, pos := "law.go:230", after := #[{ on := 1, ground := Ground.data }], guard := none }) (v := ?_) rfl (by kernel_rfl) (by kernel_rfl) (by kernel_rfl) (fun _ _ _ h => h) (Or.inl ⟨by rfl, ?_⟩) (by assumption) ?_
        rotate_left
        · (intro w hSw; (try dsimp only at hSw); go_simp; try with_reducible rfl)
        simp only [Act.put, List.setIfInBounds_toArray, List.set_cons_zero, List.set_cons_succ]
        refine wpAnyH_ready (rs := [4]) (by kernel_rfl) (by simp) ?_
        refine AllReadyH.cons (o := { dst := some 93, op := Op.call { callee := Callee.value (Operand.func 34), args := #[Operand.tmp 92], argTypes := #[40] }, type := 22, pos := "law.go:230", after := #[{ on := 3, ground := Ground.data }, { on := 1, ground := Ground.chain }], guard := none }) rfl (fun K hK => ?_) AllReadyH.nil
        go_simp
        refine (Apart.image hHeld 0 rfl).mono ?_
        rintro e wb ⟨vb, rfl, LB⟩
        have SB : ∀ w', Apart w w.heap.size (TCb w.heap.size p c x E X va vb) w' → (convert 22 9 vb).run Try.prog w' = .ok (.string ⟨E.safe.toArray⟩) w' := fun w' h => h.str 4 rfl
        try simp only []
        refine hK.out _ _ (LB.take 4) (fun _ => ?_)
        refine held_more (S' := fun w' => Apart w w.heap.size (TCb w.heap.size p c x E X va vb) w') (fun w' h => h.take 4) _ _ _ _ ?_
        have hHeld := LB
        clear hK K
        try simp only [Act.put, List.setIfInBounds_toArray, List.set_cons_zero, List.set_cons_succ]
        refine wpAnyH_take (i := 5) (oi := { dst := some 94, op := Op.convert 22 9 (Operand.tmp 93), type := 9, pos := "law.go:230", after := #[{ on := 4, ground := Ground.data }], guard := none }) (v := ?_) rfl (by kernel_rfl) (by kernel_rfl) (by kernel_rfl) (fun _ _ _ h => h) (Or.inl ⟨by rfl, ?_⟩) (by assumption) ?_
        rotate_left
        · (intro w hSw; (try dsimp only at hSw); go_simp; try with_reducible rfl)
        simp only [Act.put, List.setIfInBounds_toArray, List.set_cons_zero, List.set_cons_succ]
        refine wpAnyH_take (i := 6) (oi := { dst := some 95, op := Op.binOp BinOp.eql 9 (Operand.tmp 91) (Operand.tmp 94) 9, type := 4, pos := "law.go:230", after := #[{ on := 2, ground := Ground.data }, { on := 5, ground := Ground.data }], guard := none }) (v := ?_) rfl (by kernel_rfl) (by kernel_rfl) (by kernel_rfl) (fun _ _ _ h => h) (Or.inl ⟨by rfl, ?_⟩) (by assumption) ?_
        rotate_left
        · (intro w hSw; (try dsimp only at hSw); go_simp; try with_reducible rfl)
        simp only [Act.put, List.setIfInBounds_toArray, List.set_cons_zero, List.set_cons_succ]
        refine wpAnyH_take (i := 7) (oi := { dst := some 96, op := Op.move (Operand.tmp 95), type := 4, pos := "law.go:230", after := #[{ on := 6, ground := Ground.data }, { on := 4, ground := Ground.chain }], guard := none }) (v := ?_) rfl (by kernel_rfl) (by kernel_rfl) (by kernel_rfl) (fun _ _ _ h => h) (Or.inl ⟨by rfl, ?_⟩) (by assumption) ?_
        rotate_left
        · (intro w hSw; (try dsimp only at hSw); go_simp; try with_reducible rfl)
        simp only [Act.put, List.setIfInBounds_toArray, List.set_cons_zero, List.set_cons_succ]
        refine wpAnyH_take (i := 8) (oi := { dst := some 97, op := Op.move (Operand.tmp 10), type := 40, pos := "law.go:230", after := #[{ on := 7, ground := Ground.guard }], guard := some (7, true) }) (v := ?_) rfl (by kernel_rfl) (by kernel_rfl) (by kernel_rfl) (fun _ _ _ h => h) (Or.inl ⟨by rfl, ?_⟩) (by assumption) ?_
        rotate_left
        · (intro w hSw; (try dsimp only at hSw); go_simp; try with_reducible rfl)
        simp only [Act.put, List.setIfInBounds_toArray, List.set_cons_zero, List.set_cons_succ]
        refine wpAnyH_take (i := 10) (oi := { dst := some 99, op := Op.move (Operand.tmp 7), type := 40, pos := "law.go:230", after := #[{ on := 7, ground := Ground.guard }], guard := some (7, true) }) (v := ?_) rfl (by kernel_rfl) (by kernel_rfl) (by kernel_rfl) (fun _ _ _ h => h) (Or.inl ⟨by rfl, ?_⟩) (by assumption) ?_
        rotate_left
        · (intro w hSw; (try dsimp only at hSw); go_simp; try with_reducible rfl)
        simp only [Act.put, List.setIfInBounds_toArray, List.set_cons_zero, List.set_cons_succ]
        refine held_call (i := 9) (oi := { dst := some 98, op := Op.call { callee := Callee.value (Operand.func 39), args := #[Operand.tmp 97], argTypes := #[40] }, type := 3, pos := "law.go:230", after := #[{ on := 8, ground := Ground.data }, { on := 7, ground := Ground.chain }, { on := 7, ground := Ground.guard }], guard := some (7, true) }) (v := (.int .i64 (E.l.length : Int))) rfl (by kernel_rfl) (by kernel_rfl) (by kernel_rfl) (fun _ _ _ h => h) (by assumption) 39 #[.pointer (some ⟨c, 0, none⟩)] (by rfl) (fun w => by go_simp) (fun w hSw => Apart.unsynced hSw 1 rfl _ rfl) ?_
        simp only [Act.put, List.setIfInBounds_toArray, List.set_cons_zero, List.set_cons_succ]
        refine held_call (i := 11) (oi := { dst := some 100, op := Op.call { callee := Callee.value (Operand.func 39), args := #[Operand.tmp 99], argTypes := #[40] }, type := 3, pos := "law.go:230", after := #[{ on := 10, ground := Ground.data }, { on := 9, ground := Ground.chain }, { on := 7, ground := Ground.guard }], guard := some (7, true) }) (v := (.int .i64 (E.l.length : Int))) rfl (by kernel_rfl) (by kernel_rfl) (by kernel_rfl) (fun _ _ _ h => h) (by assumption) 39 #[.pointer (some ⟨p, 0, none⟩)] (by rfl) (fun w => by go_simp) (fun w hSw => Apart.unsynced hSw 0 rfl _ rfl) ?_
        simp only [Act.put, List.setIfInBounds_toArray, List.set_cons_zero, List.set_cons_succ]
        refine wpAnyH_take (i := 12) (oi := { dst := some 101, op := Op.binOp BinOp.eql 3 (Operand.tmp 98) (Operand.tmp 100) 3, type := 4, pos := "law.go:230", after := #[{ on := 9, ground := Ground.data }, { on := 11, ground := Ground.data }, { on := 7, ground := Ground.guard }], guard := some (7, true) }) (v := ?_) rfl (by kernel_rfl) (by kernel_rfl) (by kernel_rfl) (fun _ _ _ h => h) (Or.inl ⟨by rfl, ?_⟩) (by assumption) ?_
        rotate_left
        · (intro w hSw; (try dsimp only at hSw); go_simp; try with_reducible rfl)
        simp only [Act.put, List.setIfInBounds_toArray, List.set_cons_zero, List.set_cons_succ]
        refine wpAnyH_take (i := 13) (oi := { dst := some 102, op := Op.pick (Operand.tmp 96) (Operand.tmp 101) (Operand.const (Value.bool false)), type := 4, pos := "law.go:230", after := #[{ on := 7, ground := Ground.data }, { on := 12, ground := Ground.data }], guard := none }) (v := ?_) rfl (by kernel_rfl) (by kernel_rfl) (by kernel_rfl) (fun _ _ _ h => h) (Or.inl ⟨by rfl, ?_⟩) (by assumption) ?_
        rotate_left
        · (intro w hSw; (try dsimp only at hSw); go_simp; try with_reducible rfl)
        simp only [Act.put, List.setIfInBounds_toArray, List.set_cons_zero, List.set_cons_succ]
        refine wpAnyH_take (i := 14) (oi := { dst := some 103, op := Op.move (Operand.tmp 102), type := 4, pos := "law.go:230", after := #[{ on := 13, ground := Ground.data }, { on := 11, ground := Ground.chain }], guard := none }) (v := ?_) rfl (by kernel_rfl) (by kernel_rfl) (by kernel_rfl) (fun _ _ _ h => h) (Or.inl ⟨by rfl, ?_⟩) (by assumption) ?_
        rotate_left
        · (intro w hSw; (try dsimp only at hSw); go_simp; try with_reducible rfl)
        simp only [Act.put, List.setIfInBounds_toArray, List.set_cons_zero, List.set_cons_succ]
        refine wpAnyH_take (i := 15) (oi := { dst := some 104, op := Op.move (Operand.tmp 10), type := 40, pos := "law.go:230", after := #[{ on := 14, ground := Ground.guard }], guard := some (14, true) }) (v := ?_) rfl (by kernel_rfl) (by kernel_rfl) (by kernel_rfl) (fun _ _ _ h => h) (Or.inl ⟨by rfl, ?_⟩) (by assumption) ?_
        rotate_left
        · (intro w hSw; (try dsimp only at hSw); go_simp; try with_reducible rfl)
        simp only [Act.put, List.setIfInBounds_toArray, List.set_cons_zero, List.set_cons_succ]
        refine wpAnyH_take (i := 17) (oi := { dst := some 106, op := Op.move (Operand.tmp 7), type := 40, pos := "law.go:230", after := #[{ on := 14, ground := Ground.guard }], guard := some (14, true) }) (v := ?_) rfl (by kernel_rfl) (by kernel_rfl) (by kernel_rfl) (fun _ _ _ h => h) (Or.inl ⟨by rfl, ?_⟩) (by assumption) ?_
        rotate_left
        · (intro w hSw; (try dsimp only at hSw); go_simp; try with_reducible rfl)
        simp only [Act.put, List.setIfInBounds_toArray, List.set_cons_zero, List.set_cons_succ]
        refine held_call (i := 16) (oi := { dst := some 105, op := Op.call { callee := Callee.value (Operand.func 38), args := #[Operand.tmp 104], argTypes := #[40] }, type := 4, pos := "law.go:230", after := #[{ on := 15, ground := Ground.data }, { on := 14, ground := Ground.chain }, { on := 14, ground := Ground.guard }], guard := some (14, true) }) (v := (.bool E.gone)) rfl (by kernel_rfl) (by kernel_rfl) (by kernel_rfl) (fun _ _ _ h => h) (by assumption) 38 #[.pointer (some ⟨c, 0, none⟩)] (by rfl) (fun w => by go_simp) (fun w hSw => Apart.dead hSw 1 rfl) ?_
        simp only [Act.put, List.setIfInBounds_toArray, List.set_cons_zero, List.set_cons_succ]
        refine held_call (i := 18) (oi := { dst := some 107, op := Op.call { callee := Callee.value (Operand.func 38), args := #[Operand.tmp 106], argTypes := #[40] }, type := 4, pos := "law.go:230", after := #[{ on := 17, ground := Ground.data }, { on := 16, ground := Ground.chain }, { on := 14, ground := Ground.guard }], guard := some (14, true) }) (v := (.bool E.gone)) rfl (by kernel_rfl) (by kernel_rfl) (by kernel_rfl) (fun _ _ _ h => h) (by assumption) 38 #[.pointer (some ⟨p, 0, none⟩)] (by rfl) (fun w => by go_simp) (fun w hSw => Apart.dead hSw 0 rfl) ?_
        simp only [Act.put, List.setIfInBounds_toArray, List.set_cons_zero, List.set_cons_succ]
        refine wpAnyH_take (i := 19) (oi := { dst := some 108, op := Op.binOp BinOp.eql 4 (Operand.tmp 105) (Operand.tmp 107) 4, type := 4, pos := "law.go:230", after := #[{ on := 16, ground := Ground.data }, { on := 18, ground := Ground.data }, { on := 14, ground := Ground.guard }], guard := some (14, true) }) (v := ?_) rfl (by kernel_rfl) (by kernel_rfl) (by kernel_rfl) (fun _ _ _ h => h) (Or.inl ⟨by rfl, ?_⟩) (by assumption) ?_
        rotate_left
        · (intro w hSw; (try dsimp only at hSw); go_simp; try with_reducible rfl)
        simp only [Act.put, List.setIfInBounds_toArray, List.set_cons_zero, List.set_cons_succ]
        refine wpAnyH_take (i := 20) (oi := { dst := some 109, op := Op.pick (Operand.tmp 103) (Operand.tmp 108) (Operand.const (Value.bool false)), type := 4, pos := "law.go:230", after := #[{ on := 14, ground := Ground.data }, { on := 19, ground := Ground.data }], guard := none }) (v := ?_) rfl (by kernel_rfl) (by kernel_rfl) (by kernel_rfl) (fun _ _ _ h => h) (Or.inl ⟨by rfl, ?_⟩) (by assumption) ?_
        rotate_left
        · (intro w hSw; (try dsimp only at hSw); go_simp; try with_reducible rfl)
        simp only [Act.put, List.setIfInBounds_toArray, List.set_cons_zero, List.set_cons_succ]
        refine wpAnyH_take (i := 21) (oi := { dst := some 110, op := Op.move (Operand.tmp 109), type := 4, pos := "law.go:230", after := #[{ on := 20, ground := Ground.data }, { on := 18, ground := Ground.chain }], guard := none }) (v := ?_) rfl (by kernel_rfl) (by kernel_rfl) (by kernel_rfl) (fun _ _ _ h => h) (Or.inl ⟨by rfl, ?_⟩) (by assumption) ?_
        rotate_left
        · (intro w hSw; (try dsimp only at hSw); go_simp; try with_reducible rfl)
        simp only [Act.put, List.setIfInBounds_toArray, List.set_cons_zero, List.set_cons_succ]
        refine wpAnyH_ready (rs := [22]) (by kernel_rfl) (by simp) ?_
        refine AllReadyH.cons (o := { dst := some 111, op := Op.call { callee := Callee.value (Operand.func 35), args := #[], argTypes := #[] }, type := 4, pos := "law.go:230", after := #[{ on := 21, ground := Ground.chain }, { on := 21, ground := Ground.guard }], guard := some (21, true) }) rfl (fun K hK => ?_) AllReadyH.nil
        go_simp
        refine (Apart.known3 hHeld).mono ?_
        rintro e wk ⟨rfl, LK⟩
        try simp only []
        refine hK.out _ _ (LK) (fun _ => ?_)
        clear hK K
        try simp only [Act.put, List.setIfInBounds_toArray, List.set_cons_zero, List.set_cons_succ]
        refine wpAnyH_take (i := 23) (oi := { dst := some 112, op := Op.pick (Operand.tmp 110) (Operand.tmp 111) (Operand.const (Value.bool false)), type := 4, pos := "law.go:230", after := #[{ on := 21, ground := Ground.data }, { on := 22, ground := Ground.data }], guard := none }) (v := ?_) rfl (by kernel_rfl) (by kernel_rfl) (by kernel_rfl) (fun _ _ _ h => h) (Or.inl ⟨by rfl, ?_⟩) (by assumption) ?_
        rotate_left
        · (intro w hSw; (try dsimp only at hSw); go_simp; try with_reducible rfl)
        simp only [Act.put, List.setIfInBounds_toArray, List.set_cons_zero, List.set_cons_succ]
        refine wpAnyH_take (i := 24) (oi := { dst := some 6, op := Op.assign (Operand.tmp 112), type := 4, pos := "law.go:230", after := #[{ on := 23, ground := Ground.data }, { on := 22, ground := Ground.chain }, { on := 0, ground := Ground.phase }, { on := 1, ground := Ground.phase }, { on := 2, ground := Ground.phase }, { on := 3, ground := Ground.phase }, { on := 4, ground := Ground.phase }, { on := 5, ground := Ground.phase }, { on := 6, ground := Ground.phase }, { on := 7, ground := Ground.phase }, { on := 8, ground := Ground.phase }, { on := 9, ground := Ground.phase }, { on := 10, ground := Ground.phase }, { on := 11, ground := Ground.phase }, { on := 12, ground := Ground.phase }, { on := 13, ground := Ground.phase }, { on := 14, ground := Ground.phase }, { on := 15, ground := Ground.phase }, { on := 16, ground := Ground.phase }, { on := 17, ground := Ground.phase }, { on := 18, ground := Ground.phase }, { on := 19, ground := Ground.phase }, { on := 20, ground := Ground.phase }, { on := 21, ground := Ground.phase }, { on := 22, ground := Ground.phase }, { on := 23, ground := Ground.phase }], guard := none }) (v := ?_) rfl (by kernel_rfl) (by kernel_rfl) (by kernel_rfl) (fun _ _ _ h => h) (Or.inl ⟨by rfl, ?_⟩) (by assumption) ?_
        rotate_left
        · (intro w hSw; (try dsimp only at hSw); go_simp; try with_reducible rfl)
        simp only [Act.put, List.setIfInBounds_toArray, List.set_cons_zero, List.set_cons_succ]
        refine wpAnyH_done (by kernel_rfl) ?_ _
        go_wp2
        go_ret
        exact ⟨rfl, LK.bel⟩

theorem copies_all (W : World) {v0 v1 v2 : Value} {l0 l1 l2 : List OpV} (o0 : RdO W v0 l0) (o1 : RdO W v1 l1) (o2 : RdO W v2 l2) :
    Calls Try.prog 14 #[v0, v1, v2] W fun e w' => e = .returned (.bool true) ∧ Below W.heap.size W w' := by
  obtain ⟨a, c, rfl, h0, m0⟩ := o0
  obtain ⟨a1, c1, rfl, h1, m1⟩ := o1
  obtain ⟨a2, c2, rfl, h2, m2⟩ := o2
  exact copies_walk a l0 c a1 l1 c1 a2 l2 c2 W h0 h1 h2 m0 m1 m2
end Go.Proofs.Ytdinnkacilgmmaa
