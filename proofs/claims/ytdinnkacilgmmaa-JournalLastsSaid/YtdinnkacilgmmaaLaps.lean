/- JournalLaps: the walk. -/
import Derived.Test.YtdinnkacilgmmaaRooms
namespace Go.Proofs.Ytdinnkacilgmmaa
open Go.RowKit

theorem SlB.below {w0 w : World} {x : Value} {l : List UInt8} (h : SlB w0 x l) (hb : Below w0.heap.size w0 w) : SlB w x l := by
  obtain ⟨a', cap, e, k1, k2⟩ := h
  exact ⟨a', cap, e, k1.below hb (fun x hx hl => by subst hx; exact k1.lt hl), k2⟩
theorem Apart.cellOf {w0 w : World} {Ts : List (Thg w0.heap.size)} (h : Apart w0 w0.heap.size Ts w) {b o : Nat} {v : Value} (hc : w0.cell? ⟨b, o, none⟩ = some v) : w.cell? ⟨b, o, none⟩ = some v :=
  (h.bel.cell (p := ⟨b, o, none⟩) (World.block_lt_of_cell? _ _ hc)).trans hc

/-- behind m rounds -/
structure LapI (w : World) (m : Nat) (v : Value) (J : Jr) (D : Dsk) : Prop where
  frm : J.frm = 0
  size : J.size = 10
  len : D.l.length = 0
  top : J.next ≤ 1 + 9 * m
  is : (JInv J D [] ∧ J.next = J.start) ∨ ∃ b, JInv J D [b] ∧ SlB w v b ∧ J.start < J.next

theorem LapI.more {w : World} {m : Nat} {v : Value} {J : Jr} {D : Dsk} (h : LapI w m v J D) : LapI w (m + 1) v J D := ⟨h.frm, h.size, h.len, by have := h.top; omega, h.is⟩
theorem LapI.jinv {w : World} {m : Nat} {v : Value} {J : Jr} {D : Dsk} (h : LapI w m v J D) : ∃ ls, JInv J D ls := by
  rcases h.is with ⟨h, -⟩ | ⟨b, h, -⟩
  · exact ⟨_, h⟩
  · exact ⟨_, h⟩
theorem LapI.step {w : World} {m : Nat} {v : Value} {J : Jr} {D : Dsk} (h : LapI w m v J D) (hm : m ≤ 1000) {x : Value} {b : List UInt8} (hx : SlB w x b) (hb : b.length ≤ 2000) :
    ∃ (J1 J2 : Jr) (D2 : Dsk), J.whyTrim (J.next : Int) = 0 ∧ J.trim (J.next : Int) = J1 ∧ JInv J1 D [] ∧ J1.whyApp b = 0 ∧ J1.app b = J2 ∧ J1.appD D b = D2 ∧ JInv J2 D2 [b] ∧ LapI w (m + 1) x J2 D2.sync ∧ J2.start = J.next ∧ J.next < J2.next := by
  obtain ⟨ls, hJ⟩ := h.jinv
  have ht := h.top
  have hs := h.size
  have h2 := hJ.s2
  have hn := apN_pos b
  have hn9 : apN b ≤ 9 := by unfold apN; omega
  have hi1 := hJ.trimmed (by omega)
  have hw : ({ J with start := J.next } : Jr).whyApp b = 0 := whyApp_ok hJ.live (by omega) (by show J.next + apN b ≤ J.next + J.size; omega)
  have hi2 := hi1.app b
  rw [if_pos hw] at hi2
  obtain ⟨e1, -⟩ := app_eq (D := D) hw
  refine ⟨{ J with start := J.next }, _, _, ?_, ?_, hi1, hw, rfl, rfl, hi2, ?_, by rw [e1], by rw [e1]; show J.next < J.next + apN b; omega⟩
  · unfold Jr.whyTrim; rw [if_neg (by omega)]
  · unfold Jr.trim; rw [if_neg (by omega)]; simp
  · refine ⟨by rw [e1]; exact h.frm, by rw [e1]; exact h.size, by rw [(sync_now hi2.fine).2.1]; rfl, by rw [e1]; show J.next + apN b ≤ _; omega, .inr ⟨b, hi2.sync, hx, by rw [e1]; show J.next < J.next + apN b; omega⟩⟩

set_option maxHeartbeats 4000000 in
set_option maxRecDepth 100000 in
theorem laps_walk (a : Option Addr) (l : List (List UInt8)) (cap : Nat) (s : Int) (w : World) (ha : RdBB w a l) :
    Calls Try.prog 17 #[.slice a l.length cap, .int .i64 s] w fun e w' => e = .returned (.bool true) ∧ Below w.heap.size w w' := by
  have L0 : Apart w w.heap.size [] w := Apart.nil (Below.refl _ _) (Nat.le_refl _)
  obtain ⟨C, hC⟩ : ∃ C : Nat, (C : Int) = s % 6 := ⟨(s % 6).toNat, by omega⟩
  have hC6 : C ≤ 5 := by omega
  have KC : ∀ w, Calls Try.prog 26 #[.int .i64 s, .int .i64 6] w fun e w' => e = .returned (.int .i64 (C : Int)) ∧ w = w' := fun w => by rw [hC]; exact count_any s 6 w (by decide) (by decide)
  have HC := Lib.hid hC
  clear hC
  go_enter Try.func17, Try.ntmps17
  go_wp2_with fail
  refine (L0.newDisk 10 (by decide) (by decide)).mono ?_
  rintro e w1 ⟨p, rfl, L1⟩
  clear L0
  go_wp2_with fail
  refine (L1.jopenNew 0 10 rfl (by decide) (by decide) 0 10 1 (by decide) (by decide) (by decide) (by decide)).mono ?_
  rintro e w2 ⟨q, a2, c2, rfl, L2⟩
  have hI := (new_open 10 0 10 1 (by decide) (by decide) (by decide) (by decide) (by decide) (by decide)).1
  replace L2 : Apart w w.heap.size (TR w.heap.size p q (Dsk.of (List.replicate (10 * 256) 0)) ⟨0, 10, 1, 1, false⟩) w2 := L2
  clear L1
  have hI0 : LapI w 0 (.slice none 0 0) ⟨0, 10, 1, 1, false⟩ (Dsk.of (List.replicate (10 * 256) 0)) := ⟨rfl, rfl, rfl, by decide, .inl ⟨hI, rfl⟩⟩
  clear hI
  go_upto_block 0 with fail
  go_cut [10] (fun v10 wx => ∃ (J : Jr) (D : Dsk), LapI w 140 v10 J D ∧ Apart w w.heap.size (TR w.heap.size p q D J) wx)
  case first =>
    go_wp2_with fail
    go_loopw [10, 11] (fun v10 v11 wr => ∃ (k : Nat) (J : Jr) (D : Dsk), k ≤ 1 + C ∧ v11 = .int .i64 (k : Int) ∧ LapI w (20 * k) v10 J D ∧ Apart w w.heap.size (TR w.heap.size p q D J) wr) (fun _ v11 _ => 1 + C - (intOf v11).toNat)
    case atStart => exact ⟨0, _, _, Nat.zero_le _, rfl, hI0, L2⟩
    case round =>
      obtain ⟨k, J, D, hk, rfl, hL, L⟩ := hrel
      clear L2 hI0
      go_wp2_with fail
      refine (KC _).mono ?_
      rintro e w' ⟨rfl, rfl⟩
      by_cases hlt : (k : Int) < 1 + (C : Int)
      · go_wp2_with fail
        go_loopw [10, 12] (fun v10 v12 wr => ∃ (i : Nat) (J : Jr) (D : Dsk), i ≤ l.length ∧ i ≤ 20 ∧ v12 = .int .i64 (i : Int) ∧ LapI w (20 * k + i) v10 J D ∧ Apart w w.heap.size (TR w.heap.size p q D J) wr) (fun _ v12 _ => 20 - (intOf v12).toNat)
        case atStart => exact ⟨0, J, D, Nat.zero_le _, Nat.zero_le _, rfl, hL, L⟩
        case round =>
          clear hL L J D
          obtain ⟨i, J, D, hi, hi20, rfl, hL, L⟩ := hrel
          by_cases hlt2 : (i : Int) < (l.length : Int)
          · by_cases h20 : (i : Int) < 20
            · obtain ⟨bb, off, x, rfl, hx, hxs⟩ := ha.here (i := i) (by omega)
              have X : ∀ (Ts : List (Thg w.heap.size)) w', Apart w w.heap.size Ts w' → w'.cell? ⟨bb, off + i, none⟩ = some x := fun Ts w' L' => L'.cellOf hx
              have hXL := Lib.hid X
              have hst := fun (hb : l[i].length ≤ 2000) => hL.step (by omega) hxs hb
              obtain ⟨ab, cb, rfl, hxb, hxn⟩ := hxs
              have XB : ∀ (Ts : List (Thg w.heap.size)) w', Apart w w.heap.size Ts w' → BytesAt w' ab l[i] := fun Ts w' L' => hxb.below L'.bel (fun x hx hl => by subst hx; exact hxb.lt hl)
              have HXB := Lib.hid XB
              have hx0 := X _ _ L
              have HST := Lib.hid hst
              clear X XB hx hst hxb
              generalize l[i] = b at *
              by_cases hb2 : (2000 : Int) < (b.length : Int)
              · go_wp2
                go_roundw
                case rel => exact ⟨i + 1, J, D, by omega, by omega, by go_num, hL.more, L⟩
                case measure => simp [intOf]; omega
              · obtain ⟨J1, J2, D2, f1, f2, i1, f3, f4, f5, i2, hL2, f6, f7⟩ := HST.out (by omega)
                have hlen := hL.len
                have HF1 := Lib.hid f1
                have HF2 := Lib.hid f2
                have HF3 := Lib.hid f3
                have HF4 := Lib.hid f4
                have HF5 := Lib.hid f5
                clear f1 f2 f3 f4 f5 HST hL
                go_wp2_with fail
                refine (L.jnext 1 rfl).mono ?_
                rintro e w' ⟨rfl, rfl⟩
                go_wp2_with fail
                refine (L.jtrim 1 rfl (J.next : Int)).mono ?_
                rintro e w4 ⟨rfl, L4⟩
                rw [HF1.out]
                rw [HF2.out] at L4
                replace L4 : Apart w w.heap.size (TR w.heap.size p q D J1) w4 := L4
                have hx4 := hXL.out _ _ L4
                clear L hx0
                go_wp2_with fail
                refine (L4.jappend 1 0 rfl rfl (by decide) i1 (by omega) ab b _ cb rfl (HXB.out _ _ L4) hxn).mono ?_
                rintro e w5 ⟨rfl, L5⟩
                rw [HF3.out]
                rw [HF4.out, HF5.out] at L5
                replace L5 : Apart w w.heap.size (TR w.heap.size p q D2 J2) w5 := L5
                clear L4 hx4
                go_wp2_with fail
                refine (L5.jsync_ok 1 0 rfl rfl (by decide) i2).mono ?_
                rintro e w6 ⟨rfl, L6⟩
                replace L6 : Apart w w.heap.size (TR w.heap.size p q D2.sync J2) w6 := L6
                have hx6 := hXL.out _ _ L6
                clear L5
                go_wp2_with fail
                refine (L6.jstart 1 rfl).mono ?_
                rintro e w' ⟨rfl, rfl⟩
                rw [f6]
                go_wp2_with fail
                refine (L6.jnext 1 rfl).mono ?_
                rintro e w' ⟨rfl, rfl⟩
                have f7' : (J.next : Int) < (J2.next : Int) := by omega
                go_wp2_with fail
                go_roundw
                case rel => exact ⟨i + 1, J2, D2.sync, by omega, by omega, by go_num, hL2, L6⟩
                case measure => simp [intOf]; omega
            · go_wp2
              go_roundw
              case rel => exact ⟨k + 1, J, D, by omega, by go_num, ⟨hL.frm, hL.size, hL.len, by have := hL.top; omega, hL.is⟩, L⟩
              case measure => simp [intOf]; omega
          · go_wp2
            go_roundw
            case rel => exact ⟨k + 1, J, D, by omega, by go_num, ⟨hL.frm, hL.size, hL.len, by have := hL.top; omega, hL.is⟩, L⟩
            case measure => simp [intOf]; omega
      · go_wp2
        go_meet
        have : k = 1 + C := by omega
        refine ⟨J, D, ?_, L⟩
        exact ⟨hL.frm, hL.size, hL.len, by have := hL.top; omega, hL.is⟩
  case rest =>
    obtain ⟨J, D, hL, L⟩ := hcut
    clear L2 hI0 KC
    obtain ⟨ls, hJ⟩ := hL.jinv
    have hJs := hJ.s2
    have hJt := hL.top
    go_wp2_with fail
    refine (L.jstart 1 rfl).mono ?_
    rintro e w' ⟨rfl, rfl⟩
    go_wp2_with fail
    have hag := fun ls hJ => L.jagain (ls := ls) 0 rfl hJ (by rw [hL.size]; decide) (by omega) (by rw [hL.len]; decide)
    rw [hL.frm, hL.size] at hag
    rcases hL.is with ⟨h1, h2⟩ | ⟨b, h1, h2, h3⟩
    · refine (hag _ h1).mono ?_
      rintro e w3 ⟨q2, v, rfl, L3⟩
      replace L3 : Apart w w.heap.size [DiskT w.heap.size p D, JT w.heap.size q p J, JT w.heap.size q2 p J, BBT w.heap.size v []] w3 := L3
      obtain ⟨a3, c3, rfl, -⟩ := L3.rows 3 rfl
      clear hag
      go_wp2_with fail
      refine (L3.jnext 1 rfl).mono ?_
      rintro e w' ⟨rfl, rfl⟩
      go_wp2_with fail
      refine (L3.jstart 1 rfl).mono ?_
      rintro e w' ⟨rfl, rfl⟩
      go_wp2_with fail
      refine L3.known4.mono ?_
      rintro e w5 ⟨rfl, L5⟩
      have hb := L5.bel
      go_wp2
      go_ret
      exact ⟨rfl, hb⟩
    · refine (hag _ h1).mono ?_
      rintro e w3 ⟨q2, v, rfl, L3⟩
      replace L3 : Apart w w.heap.size [DiskT w.heap.size p D, JT w.heap.size q p J, JT w.heap.size q2 p J, BBT w.heap.size v [b]] w3 := L3
      obtain ⟨a3, c3, rfl, hrd⟩ := L3.rows 3 rfl
      obtain ⟨g, off, x0, rfl, c0, s0⟩ := hrd.here (i := 0) (by simp)
      have S0 : ∀ w', Mod (fun _ => False) w3 w' → (convert 22 9 x0).run Try.prog w' = .ok (.string ⟨b.toArray⟩) w' := fun w' h => (s0.still h).str
      have S1 : ∀ w', Mod (fun _ => False) w3 w' → (convert 22 9 u10).run Try.prog w' = .ok (.string ⟨b.toArray⟩) w' := fun w' h => ((h2.below L3.bel).still h).str
      simp only [List.length_cons, List.length_nil, Nat.add_zero, Nat.zero_add] at c0 ⊢
      have hne : ((J.next : Int) == (J.start : Int)) = false := by simp; omega
      clear hag s0 hrd h2
      go_wp2_with fail
      refine (L3.jnext 1 rfl).mono ?_
      rintro e w' ⟨rfl, rfl⟩
      go_wp2_with fail
      refine (L3.jstart 1 rfl).mono ?_
      rintro e w' ⟨rfl, rfl⟩
      have C0 : ∀ w', Mod (fun _ => False) w3 w' → w'.cell? ⟨g, off, none⟩ = some x0 := fun w' h => h.cell' c0 id
      go_upto_region 26 with fail
      refine wp_region_held_drew (S := fun w' => Mod (fun _ => False) w3 w') (by kernel_rfl) (Mod.drew _ _) (fun hHeld => ?_)
      refine wpAnyH_take (i := 0) (oi := { dst := some 121, op := Op.move (Operand.tmp 15), type := 66, pos := "law.go:247", after := #[], guard := none }) (v := ?_) rfl (by kernel_rfl) (by kernel_rfl) (by kernel_rfl) (fun _ _ _ h => h) (Or.inl ⟨by rfl, ?_⟩) (by assumption) ?_
      rotate_left
      · (intro w hSw; (try dsimp only at hSw); go_simp; try with_reducible rfl)
      simp only [Act.put, List.setIfInBounds_toArray, List.set_cons_zero, List.set_cons_succ]
      refine wpAnyH_take (i := 1) (oi := { dst := some 122, op := Op.call { callee := Callee.builtin Builtin.len, args := #[Operand.tmp 121], argTypes := #[66] }, type := 3, pos := "law.go:247", after := #[{ on := 0, ground := Ground.data }], guard := none }) (v := ?_) rfl (by kernel_rfl) (by kernel_rfl) (by kernel_rfl) (fun _ _ _ h => h) (Or.inl ⟨by rfl, ?_⟩) (by assumption) ?_
      rotate_left
      · (intro w hSw; (try dsimp only at hSw); go_simp; try with_reducible rfl)
      simp only [Act.put, List.setIfInBounds_toArray, List.set_cons_zero, List.set_cons_succ]
      refine wpAnyH_take (i := 2) (oi := { dst := some 123, op := Op.binOp BinOp.eql 3 (Operand.tmp 122) (Operand.const (Value.int IntKind.i64 1)) 3, type := 4, pos := "law.go:247", after := #[{ on := 1, ground := Ground.data }], guard := none }) (v := ?_) rfl (by kernel_rfl) (by kernel_rfl) (by kernel_rfl) (fun _ _ _ h => h) (Or.inl ⟨by rfl, ?_⟩) (by assumption) ?_
      rotate_left
      · (intro w hSw; (try dsimp only at hSw); go_simp; try with_reducible rfl)
      simp only [Act.put, List.setIfInBounds_toArray, List.set_cons_zero, List.set_cons_succ]
      refine wpAnyH_take (i := 3) (oi := { dst := some 124, op := Op.move (Operand.tmp 123), type := 4, pos := "law.go:247", after := #[{ on := 2, ground := Ground.data }], guard := none }) (v := ?_) rfl (by kernel_rfl) (by kernel_rfl) (by kernel_rfl) (fun _ _ _ h => h) (Or.inl ⟨by rfl, ?_⟩) (by assumption) ?_
      rotate_left
      · (intro w hSw; (try dsimp only at hSw); go_simp; try with_reducible rfl)
      simp only [Act.put, List.setIfInBounds_toArray, List.set_cons_zero, List.set_cons_succ]
      refine wpAnyH_take (i := 4) (oi := { dst := some 125, op := Op.move (Operand.tmp 15), type := 66, pos := "law.go:247", after := #[{ on := 3, ground := Ground.guard }], guard := some (3, true) }) (v := ?_) rfl (by kernel_rfl) (by kernel_rfl) (by kernel_rfl) (fun _ _ _ h => h) (Or.inl ⟨by rfl, ?_⟩) (by assumption) ?_
      rotate_left
      · (intro w hSw; (try dsimp only at hSw); go_simp; try with_reducible rfl)
      simp only [Act.put, List.setIfInBounds_toArray, List.set_cons_zero, List.set_cons_succ]
      refine wpAnyH_take (i := 5) (oi := { dst := some 126, op := Op.indexAddr 66 (Operand.tmp 125) (Operand.const (Value.int IntKind.i64 0)), type := 0, pos := "law.go:247", after := #[{ on := 4, ground := Ground.data }, { on := 3, ground := Ground.guard }], guard := some (3, true) }) (v := ?_) rfl (by kernel_rfl) (by kernel_rfl) (by kernel_rfl) (fun _ _ _ h => h) (Or.inl ⟨by rfl, ?_⟩) (by assumption) ?_
      rotate_left
      · (intro w hSw; (try dsimp only at hSw); go_simp; try with_reducible rfl)
      simp only [Act.put, List.setIfInBounds_toArray, List.set_cons_zero, List.set_cons_succ]
      refine wpAnyH_take (i := 6) (oi := { dst := some 127, op := Op.load 22 (Operand.tmp 126), type := 22, pos := "law.go:247", after := #[{ on := 5, ground := Ground.data }, { on := 3, ground := Ground.guard }], guard := some (3, true) }) (v := ?_) rfl (by kernel_rfl) (by kernel_rfl) (by kernel_rfl) (fun _ _ _ h => h) (Or.inl ⟨by rfl, ?_⟩) (by assumption) ?_
      rotate_left
      · (intro w hSw; (try dsimp only at hSw); go_simp; try with_reducible rfl)
      simp only [Act.put, List.setIfInBounds_toArray, List.set_cons_zero, List.set_cons_succ]
      refine wpAnyH_take (i := 7) (oi := { dst := some 128, op := Op.convert 22 9 (Operand.tmp 127), type := 9, pos := "law.go:247", after := #[{ on := 6, ground := Ground.data }, { on := 3, ground := Ground.guard }], guard := some (3, true) }) (v := ?_) rfl (by kernel_rfl) (by kernel_rfl) (by kernel_rfl) (fun _ _ _ h => h) (Or.inl ⟨by rfl, ?_⟩) (by assumption) ?_
      rotate_left
      · (intro w hSw; (try dsimp only at hSw); go_simp; try with_reducible rfl)
      simp only [Act.put, List.setIfInBounds_toArray, List.set_cons_zero, List.set_cons_succ]
      refine wpAnyH_take (i := 8) (oi := { dst := some 129, op := Op.move (Operand.tmp 10), type := 22, pos := "law.go:247", after := #[{ on := 3, ground := Ground.guard }], guard := some (3, true) }) (v := ?_) rfl (by kernel_rfl) (by kernel_rfl) (by kernel_rfl) (fun _ _ _ h => h) (Or.inl ⟨by rfl, ?_⟩) (by assumption) ?_
      rotate_left
      · (intro w hSw; (try dsimp only at hSw); go_simp; try with_reducible rfl)
      simp only [Act.put, List.setIfInBounds_toArray, List.set_cons_zero, List.set_cons_succ]
      refine wpAnyH_take (i := 9) (oi := { dst := some 130, op := Op.convert 22 9 (Operand.tmp 129), type := 9, pos := "law.go:247", after := #[{ on := 8, ground := Ground.data }, { on := 3, ground := Ground.guard }], guard := some (3, true) }) (v := ?_) rfl (by kernel_rfl) (by kernel_rfl) (by kernel_rfl) (fun _ _ _ h => h) (Or.inl ⟨by rfl, ?_⟩) (by assumption) ?_
      rotate_left
      · (intro w hSw; (try dsimp only at hSw); go_simp; try with_reducible rfl)
      simp only [Act.put, List.setIfInBounds_toArray, List.set_cons_zero, List.set_cons_succ]
      refine wpAnyH_take (i := 10) (oi := { dst := some 131, op := Op.binOp BinOp.eql 9 (Operand.tmp 128) (Operand.tmp 130) 9, type := 4, pos := "law.go:247", after := #[{ on := 7, ground := Ground.data }, { on := 9, ground := Ground.data }, { on := 3, ground := Ground.guard }], guard := some (3, true) }) (v := ?_) rfl (by kernel_rfl) (by kernel_rfl) (by kernel_rfl) (fun _ _ _ h => h) (Or.inl ⟨by rfl, ?_⟩) (by assumption) ?_
      rotate_left
      · (intro w hSw; (try dsimp only at hSw); go_simp; try with_reducible rfl)
      simp only [Act.put, List.setIfInBounds_toArray, List.set_cons_zero, List.set_cons_succ]
      refine wpAnyH_take (i := 11) (oi := { dst := some 132, op := Op.pick (Operand.tmp 124) (Operand.tmp 131) (Operand.const (Value.bool false)), type := 4, pos := "law.go:247", after := #[{ on := 3, ground := Ground.data }, { on := 10, ground := Ground.data }], guard := none }) (v := ?_) rfl (by kernel_rfl) (by kernel_rfl) (by kernel_rfl) (fun _ _ _ h => h) (Or.inl ⟨by rfl, ?_⟩) (by assumption) ?_
      rotate_left
      · (intro w hSw; (try dsimp only at hSw); go_simp; try with_reducible rfl)
      simp only [Act.put, List.setIfInBounds_toArray, List.set_cons_zero, List.set_cons_succ]
      refine wpAnyH_take (i := 12) (oi := { dst := some 133, op := Op.move (Operand.tmp 132), type := 4, pos := "law.go:247", after := #[{ on := 11, ground := Ground.data }, { on := 3, ground := Ground.chain }], guard := none }) (v := ?_) rfl (by kernel_rfl) (by kernel_rfl) (by kernel_rfl) (fun _ _ _ h => h) (Or.inl ⟨by rfl, ?_⟩) (by assumption) ?_
      rotate_left
      · (intro w hSw; (try dsimp only at hSw); go_simp; try with_reducible rfl)
      simp only [Act.put, List.setIfInBounds_toArray, List.set_cons_zero, List.set_cons_succ]
      refine wpAnyH_take (i := 13) (oi := { dst := some 134, op := Op.move (Operand.tmp 14), type := 76, pos := "law.go:247", after := #[{ on := 12, ground := Ground.guard }], guard := some (12, true) }) (v := ?_) rfl (by kernel_rfl) (by kernel_rfl) (by kernel_rfl) (fun _ _ _ h => h) (Or.inl ⟨by rfl, ?_⟩) (by assumption) ?_
      rotate_left
      · (intro w hSw; (try dsimp only at hSw); go_simp; try with_reducible rfl)
      simp only [Act.put, List.setIfInBounds_toArray, List.set_cons_zero, List.set_cons_succ]
      refine wpAnyH_take (i := 15) (oi := { dst := some 136, op := Op.move (Operand.tmp 7), type := 76, pos := "law.go:247", after := #[{ on := 12, ground := Ground.guard }], guard := some (12, true) }) (v := ?_) rfl (by kernel_rfl) (by kernel_rfl) (by kernel_rfl) (fun _ _ _ h => h) (Or.inl ⟨by rfl, ?_⟩) (by assumption) ?_
      rotate_left
      · (intro w hSw; (try dsimp only at hSw); go_simp; try with_reducible rfl)
      simp only [Act.put, List.setIfInBounds_toArray, List.set_cons_zero, List.set_cons_succ]
      refine held_call (i := 14) (oi := { dst := some 135, op := Op.call { callee := Callee.value (Operand.func 57), args := #[Operand.tmp 134], argTypes := #[76] }, type := 2, pos := "law.go:247", after := #[{ on := 13, ground := Ground.data }, { on := 12, ground := Ground.chain }, { on := 12, ground := Ground.guard }], guard := some (12, true) }) (v := (.int .i64 (J.next : Int))) rfl (by kernel_rfl) (by kernel_rfl) (by kernel_rfl) (fun _ _ _ h => h) (by assumption) 57 #[.pointer (some ⟨q2, 0, none⟩)] (by rfl) (fun w => by go_simp) (fun w hSw => (L3.still hSw).jnext 2 rfl) ?_
      simp only [Act.put, List.setIfInBounds_toArray, List.set_cons_zero, List.set_cons_succ]
      refine held_call (i := 16) (oi := { dst := some 137, op := Op.call { callee := Callee.value (Operand.func 57), args := #[Operand.tmp 136], argTypes := #[76] }, type := 2, pos := "law.go:247", after := #[{ on := 15, ground := Ground.data }, { on := 14, ground := Ground.chain }, { on := 12, ground := Ground.guard }], guard := some (12, true) }) (v := (.int .i64 (J.next : Int))) rfl (by kernel_rfl) (by kernel_rfl) (by kernel_rfl) (fun _ _ _ h => h) (by assumption) 57 #[.pointer (some ⟨q, 0, none⟩)] (by rfl) (fun w => by go_simp) (fun w hSw => (L3.still hSw).jnext 1 rfl) ?_
      simp only [Act.put, List.setIfInBounds_toArray, List.set_cons_zero, List.set_cons_succ]
      refine wpAnyH_take (i := 17) (oi := { dst := some 138, op := Op.binOp BinOp.eql 2 (Operand.tmp 135) (Operand.tmp 137) 2, type := 4, pos := "law.go:247", after := #[{ on := 14, ground := Ground.data }, { on := 16, ground := Ground.data }, { on := 12, ground := Ground.guard }], guard := some (12, true) }) (v := ?_) rfl (by kernel_rfl) (by kernel_rfl) (by kernel_rfl) (fun _ _ _ h => h) (Or.inl ⟨by rfl, ?_⟩) (by assumption) ?_
      rotate_left
      · (intro w hSw; (try dsimp only at hSw); go_simp; try with_reducible rfl)
      simp only [Act.put, List.setIfInBounds_toArray, List.set_cons_zero, List.set_cons_succ]
      refine wpAnyH_take (i := 18) (oi := { dst := some 139, op := Op.pick (Operand.tmp 133) (Operand.tmp 138) (Operand.const (Value.bool false)), type := 4, pos := "law.go:247", after := #[{ on := 12, ground := Ground.data }, { on := 17, ground := Ground.data }], guard := none }) (v := ?_) rfl (by kernel_rfl) (by kernel_rfl) (by kernel_rfl) (fun _ _ _ h => h) (Or.inl ⟨by rfl, ?_⟩) (by assumption) ?_
      rotate_left
      · (intro w hSw; (try dsimp only at hSw); go_simp; try with_reducible rfl)
      simp only [Act.put, List.setIfInBounds_toArray, List.set_cons_zero, List.set_cons_succ]
      refine wpAnyH_take (i := 19) (oi := { dst := some 140, op := Op.move (Operand.tmp 139), type := 4, pos := "law.go:247", after := #[{ on := 18, ground := Ground.data }, { on := 16, ground := Ground.chain }], guard := none }) (v := ?_) rfl (by kernel_rfl) (by kernel_rfl) (by kernel_rfl) (fun _ _ _ h => h) (Or.inl ⟨by rfl, ?_⟩) (by assumption) ?_
      rotate_left
      · (intro w hSw; (try dsimp only at hSw); go_simp; try with_reducible rfl)
      simp only [Act.put, List.setIfInBounds_toArray, List.set_cons_zero, List.set_cons_succ]
      refine wpAnyH_ready (rs := [20]) (by kernel_rfl) (by simp) ?_
      refine AllReadyH.cons (o := { dst := some 141, op := Op.call { callee := Callee.value (Operand.func 58), args := #[], argTypes := #[] }, type := 4, pos := "law.go:247", after := #[{ on := 19, ground := Ground.chain }, { on := 19, ground := Ground.guard }], guard := some (19, true) }) rfl (fun K hK => ?_) AllReadyH.nil
      go_simp
      refine (known4_any _).mono ?_
      rintro e w4 ⟨rfl, hb4⟩
      have hM : Mod (fun _ => False) w3 w4 := (Mod.drew _ _).trans' (Mod.fresh hb4 _)
      try simp only []
      refine hK.out _ _ (hM) (fun _ => ?_)
      clear hK K
      try simp only [Act.put, List.setIfInBounds_toArray, List.set_cons_zero, List.set_cons_succ]
      refine wpAnyH_take (i := 21) (oi := { dst := some 142, op := Op.pick (Operand.tmp 140) (Operand.tmp 141) (Operand.const (Value.bool false)), type := 4, pos := "law.go:247", after := #[{ on := 19, ground := Ground.data }, { on := 20, ground := Ground.data }], guard := none }) (v := ?_) rfl (by kernel_rfl) (by kernel_rfl) (by kernel_rfl) (fun _ _ _ h => h) (Or.inl ⟨by rfl, ?_⟩) (by assumption) ?_
      rotate_left
      · (intro w hSw; (try dsimp only at hSw); go_simp; try with_reducible rfl)
      simp only [Act.put, List.setIfInBounds_toArray, List.set_cons_zero, List.set_cons_succ]
      refine wpAnyH_take (i := 22) (oi := { dst := some 4, op := Op.assign (Operand.tmp 142), type := 4, pos := "law.go:247", after := #[{ on := 21, ground := Ground.data }, { on := 20, ground := Ground.chain }, { on := 0, ground := Ground.phase }, { on := 1, ground := Ground.phase }, { on := 2, ground := Ground.phase }, { on := 3, ground := Ground.phase }, { on := 4, ground := Ground.phase }, { on := 5, ground := Ground.phase }, { on := 6, ground := Ground.phase }, { on := 7, ground := Ground.phase }, { on := 8, ground := Ground.phase }, { on := 9, ground := Ground.phase }, { on := 10, ground := Ground.phase }, { on := 11, ground := Ground.phase }, { on := 12, ground := Ground.phase }, { on := 13, ground := Ground.phase }, { on := 14, ground := Ground.phase }, { on := 15, ground := Ground.phase }, { on := 16, ground := Ground.phase }, { on := 17, ground := Ground.phase }, { on := 18, ground := Ground.phase }, { on := 19, ground := Ground.phase }, { on := 20, ground := Ground.phase }, { on := 21, ground := Ground.phase }], guard := none }) (v := ?_) rfl (by kernel_rfl) (by kernel_rfl) (by kernel_rfl) (fun _ _ _ h => h) (Or.inl ⟨by rfl, ?_⟩) (by assumption) ?_
      rotate_left
      · (intro w hSw; (try dsimp only at hSw); go_simp; try with_reducible rfl)
      simp only [Act.put, List.setIfInBounds_toArray, List.set_cons_zero, List.set_cons_succ]
      refine wpAnyH_done (by kernel_rfl) ?_ _
      have hb := (L3.still hM).bel
      go_wp2
      go_ret
      exact ⟨rfl, hb⟩


theorem laps_all (W : World) {v0 : Value} {l0 : List (List UInt8)} (o0 : RdBs W v0 l0) {a1 : Int} {P : Prop} (_ : P) : Calls Try.prog 17 #[v0, .int .i64 a1] W fun e W' => e = .returned (.bool true) ∧ Below W.heap.size W W' := by
  obtain ⟨a, cap, rfl, h, -⟩ := o0
  exact laps_walk a l0 cap a1 W h
end Go.Proofs.Ytdinnkacilgmmaa
