/- DiskFails: the walk. -/
import Derived.Test.YtdinnkacilgmmaaScript
namespace Go.Proofs.Ytdinnkacilgmmaa
open Go.RowKit

/-- the disk of the law, behind its first write -/
def FD (s : List UInt8) (n : Nat) (b : List UInt8) (bad full gone : Bool) : Dsk := ⟨s, [(n, sect b)], bad, full, gone⟩

section
variable {s b : List UInt8} {n : Nat}
theorem fd_N (hs : s.length = 5 * 256) (bad full gone : Bool) : (FD s n b bad full gone).N = 5 := by unfold Dsk.N FD; simp only; rw [hs]
theorem of_N (hs : s.length = 5 * 256) : (Dsk.of s).N = 5 := by unfold Dsk.N Dsk.of; simp only; rw [hs]
theorem of_why (hs : s.length = 5 * 256) (hn : n < 5) (hb : b.length ≤ 256) : (Dsk.of s).why n b = 0 := by
  have h1 : ¬ ((n : Int) < 0 ∨ ((Dsk.of s).N : Int) ≤ n) := by rw [of_N hs]; omega
  have h2 : ¬ 256 < b.length := by omega
  have h3 : (Dsk.of s).gone = false := rfl
  have h4 : (Dsk.of s).full = false := rfl
  unfold Dsk.why
  rw [if_neg (by rw [h3]; decide), if_neg h1, if_neg h2, if_neg (by rw [h4]; decide)]
theorem of_write (hs : s.length = 5 * 256) (hn : n < 5) (hb : b.length ≤ 256) : (Dsk.of s).write n b = FD s n b false false false := by
  unfold Dsk.write
  rw [if_pos (of_why hs hn hb), Int.toNat_natCast]
  rfl
theorem fd_why_full (hs : s.length = 5 * 256) (hn : n < 5) (c : List UInt8) (hc : c.length ≤ 256) : (FD s n b false true false).why n c = 4 := by
  have h1 : ¬ ((n : Int) < 0 ∨ ((FD s n b false true false).N : Int) ≤ n) := by rw [fd_N hs]; omega
  have h2 : ¬ 256 < c.length := by omega
  unfold Dsk.why
  rw [if_neg (by intro h; cases h), if_neg h1, if_neg h2, if_pos (show (FD s n b false true false).full = true from rfl)]
theorem fd_write_full (hs : s.length = 5 * 256) (hn : n < 5) (c : List UInt8) (hc : c.length ≤ 256) : (FD s n b false true false).write n c = FD s n b false true false := by
  unfold Dsk.write
  rw [if_neg (by rw [fd_why_full hs hn c hc]; decide)]
theorem sector_lay (s : List UInt8) (hs : s.length = 5 * 256) (hn : n < 5) (c : List UInt8) (hc : c.length = 256) : sector (lay s n c) n = c := by
  unfold sector lay splice
  rw [List.drop_append_of_le_length (by simp; omega), List.drop_of_length_le (by simp; omega), List.nil_append]
  rw [← hc, List.take_left]
theorem fd_now (bad full gone : Bool) : (FD s n b bad full gone).now = lay s n (sect b) := rfl
theorem fd_sector (hs : s.length = 5 * 256) (hn : n < 5) (hb : b.length ≤ 256) (bad full gone : Bool) : sector (FD s n b bad full gone).now n = sect b := by
  rw [fd_now]; exact sector_lay s hs hn _ (sect_length b hb)
theorem fd_crash (hb : b.length ≤ 256) (bad full gone : Bool) : (FD s n b bad full gone).crash [256] = Dsk.of (lay s n (sect b)) := by
  unfold Dsk.crash FD Dsk.of
  simp only [crashed, List.headD_cons]
  rw [show clamp 256 = 256 by decide, List.take_of_length_le (by rw [sect_length b hb]; exact Nat.le_refl _)]
theorem fd_wrong (hs : s.length = 5 * 256) (hn : n < 5) (bad full gone : Bool) : (FD s n b bad full gone).wrong n = 0 := by
  unfold Dsk.wrong; rw [fd_N hs, if_neg (by omega)]
theorem of_wrong (hs : s.length = 5 * 256) (hn : n < 5) : (Dsk.of s).wrong n = 0 := by
  unfold Dsk.wrong; rw [of_N hs, if_neg (by omega)]
end

set_option maxHeartbeats 2000000 in
set_option maxRecDepth 100000 in
theorem fails_walk (a : Option Addr) (l : List OpV) (cap : Nat) (n0 : Int) (ab : Option Addr) (b0 : List UInt8) (cb : Nat) (w : World) (ha : OpsAt w a l) (_hm : l.length ≤ 140737488351232) (hb0 : BytesAt w ab b0) (hmb : b0.length ≤ 140737488351232) (hcb : b0.length ≤ cb) :
    Calls Try.prog 10 #[.slice a l.length cap, .int .i64 n0, .slice ab b0.length cb] w fun e w' => e = .returned (.bool true) ∧ Below w.heap.size w w' := by
  have kc := fun w C n c => Lib.run_convert_bytes_const (P := Try.prog) w 22 5 C n c Try.underlying22 Try.underlying5
  have hn1 : 0 ≤ n0 % 5 := Int.emod_nonneg _ (by omega)
  have hn2 : n0 % 5 < 5 := Int.emod_lt_of_pos _ (by omega)
  obtain ⟨n, hnn⟩ : ∃ n : Nat, (n : Int) = n0 % 5 := ⟨(n0 % 5).toNat, by omega⟩
  have hn5 : n < 5 := by omega
  have HNN := Lib.hid hnn.symm
  clear hnn hn1 hn2
  have L0 : Apart w w.heap.size [] w := Apart.nil (Below.refl _ _) (Nat.le_refl _)
  go_enter Try.func10, Try.ntmps10
  go_wp2_with fail
  refine (L0.newDisk 5 (by decide) (by decide)).mono ?_
  rintro e w1 ⟨p, rfl, L1⟩
  clear L0
  replace L1 : Apart w w.heap.size [DiskT w.heap.size p (Dsk.of (List.replicate (5 * 256) 0))] w1 := L1
  go_upto_block 0 with fail
  go_cut [] (fun wx => ∃ D : Dsk, D.safe.length = 5 * 256 ∧ Apart w w.heap.size [DiskT w.heap.size p D] wx)
  case first =>
    go_wp2_with fail
    go_loopw [9] (fun v9 wr => ∃ (k : Nat) (D : Dsk), k ≤ l.length ∧ k ≤ 40 ∧ v9 = .int .i64 (k : Int) ∧ D.safe.length = 5 * 256 ∧ D.l.length ≤ k ∧ Apart w w.heap.size [DiskT w.heap.size p D] wr) (fun v9 _ => 40 - (intOf v9).toNat)
    case atStart => exact ⟨0, _, Nat.zero_le _, Nat.zero_le _, rfl, by show (List.replicate (5 * 256) (0 : UInt8)).length = _; rw [List.length_replicate], Nat.zero_le _, L1⟩
    case round =>
      obtain ⟨k, D, hk, hk6, rfl, hDs, hDl, L⟩ := hrel
      by_cases hlt : (k : Int) < (l.length : Int)
      · by_cases h60 : (k : Int) < 40
        · obtain ⟨bb, off, rfl, ab', cb', al, cl, q0, q1, q2, q3, r1, r2, r3, r4, r5, r6, r7⟩ := ha.here L.bel (k := k) (by omega)
          generalize l[k] = o at *
          have hwf := (L.disk 0 rfl).elim fun _ hd => hd.wf
          have hstep := hwf.step_len o
          go_wp2_with fail
          refine (L.doOp 0 rfl (by omega) o ab' cb' al cl r1 r2 r3 r4 r5 r6 r7).mono ?_
          rintro e w2 ⟨rfl, L2⟩
          go_wp2
          go_roundw
          case rel => exact ⟨k + 1, D.step o, by omega, by omega, by go_num, hstep.1.trans hDs, by have := hstep.2; omega, L2⟩
          case measure => simp [intOf]; omega
        · go_wp2
          go_meet
          exact ⟨D, hDs, L⟩
      · go_wp2
        go_meet
        exact ⟨D, hDs, L⟩
  case rest =>
    obtain ⟨D, hDs, L⟩ := hcut
    clear L1
    go_wp2_with fail
    refine (L.crashNil 0 rfl).mono ?_
    rintro e w4 ⟨rfl, L4⟩
    replace L4 : Apart w w.heap.size [DiskT w.heap.size p (Dsk.of D.safe)] w4 := by
      rw [show D.crash [] = Dsk.of D.safe by unfold Dsk.crash; rw [crashed_nil]; rfl] at L4; exact L4
    generalize D.safe = s at *
    have HS := Lib.hid hDs
    clear hDs L
    go_wp2_with fail
    refine (count_any _ _ _ (by decide) (by decide)).mono ?_
    rintro e w' ⟨rfl, rfl⟩
    rw [HNN.out]
    have hcb' : (b0.length : Int) ≤ (cb : Int) := by omega
    go_upto_if 49 with fail
    go_cut [2] (fun s2 wx => ∃ b : List UInt8, s2 = .slice ab b.length cb ∧ b.length ≤ 256 ∧ BytesAt w ab b ∧ w4 = wx)
    case first =>
      by_cases hbig : 256 < b0.length
      · have hbig' : (256 : Int) < (b0.length : Int) := by omega
        have hcb2 : (256 : Int) ≤ (cb : Int) := by omega
        go_wp2
        go_meet
        refine ⟨b0.take 256, ?_, by rw [List.length_take]; omega, hb0.take0 256, rfl⟩
        rw [List.length_take, Nat.min_eq_left (by omega)]
      · have hbig' : (b0.length : Int) ≤ 256 := by omega
        go_wp2
        go_meet
        exact ⟨b0, rfl, by omega, hb0, rfl⟩
    case rest =>
      obtain ⟨b, rfl, hbl, hbb, rfl⟩ := hcut
      have hbb4 := hbb.below L4.bel (fun x e hl => by subst e; exact hbb.lt hl)
      have y1 := of_why (n := n) HS.out hn5 hbl
      have y2 := of_write (n := n) HS.out hn5 hbl
      go_wp2_with fail
      refine (L4.write 0 rfl (by show 0 + 1 ≤ _; omega) n ab b _ cb rfl hbb4 (by omega)).mono ?_
      rintro e w5 ⟨rfl, L5⟩
      rw [y1]
      replace L5 : Apart w w.heap.size [DiskT w.heap.size p (FD s n b false false false)] w5 := by rw [y2] at L5; exact L5
      clear y1 y2 hbb4 L4
      go_wp2_with fail
      refine (L5.unsynced 0 rfl 1 rfl).mono ?_
      rintro e w' ⟨rfl, rfl⟩
      go_wp2_with fail
      refine (L5.read 0 rfl n).mono ?_
      rintro e w6 ⟨va, rfl, L6⟩
      rw [fd_wrong HS.out hn5] at L6 ⊢
      replace L6 : Apart w w.heap.size [DiskT w.heap.size p (FD s n b false false false), BytesT w.heap.size va (sect b)] w6 := by
        rw [if_pos rfl, Int.toNat_natCast, fd_sector HS.out hn5 hbl] at L6; exact L6
      clear L5
      go_wp2_with fail
      refine (L6.image 0 rfl).mono ?_
      rintro e w7 ⟨vi, rfl, L7⟩
      replace L7 : Apart w w.heap.size [DiskT w.heap.size p (FD s n b false false false), BytesT w.heap.size va (sect b), BytesT w.heap.size vi s] w7 := L7
      clear L6
      go_wp2_with fail
      refine (L7.fullTo 0 rfl true).mono ?_
      rintro e w8 ⟨rfl, L8⟩
      replace L8 : Apart w w.heap.size [DiskT w.heap.size p (FD s n b false true false), BytesT w.heap.size va (sect b), BytesT w.heap.size vi s] w8 := L8
      clear L7
      go_wp2_with fail
      have L8' := L8.alloc (.cells #[.int .u8 111, .int .u8 116, .int .u8 104, .int .u8 101, .int .u8 114] 5 (5, 6))
      refine (L8'.write 0 rfl (by show 1 + 1 ≤ _; omega) n _ [111, 116, 104, 101, 114] 5 5 rfl (by exact bytesAt_new' rfl rfl) (by decide)).mono ?_
      rintro e w9 ⟨rfl, L9⟩
      rw [fd_why_full HS.out hn5 _ (by decide)]
      replace L9 : Apart w w.heap.size [DiskT w.heap.size p (FD s n b false true false), BytesT w.heap.size va (sect b), BytesT w.heap.size vi s] w9 := by
        rw [fd_write_full HS.out hn5 _ (by decide)] at L9; exact L9
      clear L8 L8'
      go_wp2_with fail
      refine (L9.unsynced 0 rfl 1 rfl).mono ?_
      rintro e w' ⟨rfl, rfl⟩
      go_wp2_with fail
      refine (L9.fullTo 0 rfl false).mono ?_
      rintro e w10 ⟨rfl, L10⟩
      replace L10 : Apart w w.heap.size [DiskT w.heap.size p (FD s n b false false false), BytesT w.heap.size va (sect b), BytesT w.heap.size vi s] w10 := L10
      clear L9
      go_wp2_with fail
      refine (L10.fail 0 rfl).mono ?_
      rintro e w11 ⟨rfl, L11⟩
      replace L11 : Apart w w.heap.size [DiskT w.heap.size p (FD s n b true false false), BytesT w.heap.size va (sect b), BytesT w.heap.size vi s] w11 := L11
      clear L10
      go_wp2_with fail
      refine (L11.sync 0 rfl).mono ?_
      rintro e w12 ⟨rfl, L12⟩
      rw [show (FD s n b true false false).whySync = 20 from rfl]
      replace L12 : Apart w w.heap.size [DiskT w.heap.size p (FD s n b true false true), BytesT w.heap.size va (sect b), BytesT w.heap.size vi s] w12 := L12
      clear L11
      go_wp2_with fail
      refine (L12.dead 0 rfl).mono ?_
      rintro e w' ⟨rfl, rfl⟩
      rw [show (FD s n b true false true).gone = true from rfl]
      go_wp2_with fail
      refine (L12.sync 0 rfl).mono ?_
      rintro e w13 ⟨rfl, L13⟩
      rw [show (FD s n b true false true).whySync = 21 from rfl]
      replace L13 : Apart w w.heap.size [DiskT w.heap.size p (FD s n b true false true), BytesT w.heap.size va (sect b), BytesT w.heap.size vi s] w13 := L13
      clear L12
      go_wp2_with fail
      refine (L13.write 0 rfl (by show 1 + 1 ≤ _; omega) n none [] 0 0 rfl (BytesAt.nil _ _) (by decide)).mono ?_
      rintro e w14 ⟨rfl, L14⟩
      rw [show (FD s n b true false true).why n [] = 21 from rfl]
      replace L14 : Apart w w.heap.size [DiskT w.heap.size p (FD s n b true false true), BytesT w.heap.size va (sect b), BytesT w.heap.size vi s] w14 := L14
      clear L13
      go_wp2_with fail
      refine (L14.read 0 rfl n).mono ?_
      rintro e w15 ⟨vb, rfl, L15⟩
      rw [fd_wrong HS.out hn5] at L15 ⊢
      replace L15 : Apart w w.heap.size [DiskT w.heap.size p (FD s n b true false true), BytesT w.heap.size va (sect b), BytesT w.heap.size vi s, BytesT w.heap.size vb (sect b)] w15 := by
        rw [if_pos rfl, Int.toNat_natCast, fd_sector HS.out hn5 hbl] at L15; exact L15
      clear L14
      go_upto_region 24 with fail
      go_cut [128] (fun s128 wx => s128 = .bool false ∧ Apart w w.heap.size [DiskT w.heap.size p (FD s n b true false true), BytesT w.heap.size va (sect b), BytesT w.heap.size vi s, BytesT w.heap.size vb (sect b)] wx)
      case first =>
        obtain ⟨T, hT⟩ : ∃ T : List (Thg w.heap.size), T = [DiskT w.heap.size p (FD s n b true false true), BytesT w.heap.size va (sect b), BytesT w.heap.size vi s, BytesT w.heap.size vb (sect b)] := ⟨_, rfl⟩
        obtain ⟨M, hM⟩ : ∃ M : List UInt8, M = sect b := ⟨_, rfl⟩
        have LD : Apart w w.heap.size T w15.drew := by rw [hT]; exact L15.drew
        have SA : ∀ w'', Apart w w.heap.size T w'' → (convert 22 9 va).run Try.prog w'' = .ok (.string ⟨M.toArray⟩) w'' := fun w'' h => by rw [hT] at h; rw [hM]; exact h.str 1 rfl
        have SI : ∀ w'', Apart w w.heap.size T w'' → (convert 22 9 vi).run Try.prog w'' = .ok (.string ⟨s.toArray⟩) w'' := fun w'' h => by rw [hT] at h; exact h.str 2 rfl
        have SB : ∀ w'', Apart w w.heap.size T w'' → (convert 22 9 vb).run Try.prog w'' = .ok (.string ⟨M.toArray⟩) w'' := fun w'' h => by rw [hT] at h; rw [hM]; exact h.str 3 rfl
        have IM : ∀ w'', Apart w w.heap.size T w'' → Calls Try.prog 34 #[.pointer (some ⟨p, 0, none⟩)] w'' fun e w' => ∃ v, e = .returned v ∧ (convert 22 9 v).run Try.prog w' = .ok (.string ⟨s.toArray⟩) w' ∧ Apart w w.heap.size T w' := fun w'' h => by
          rw [hT] at h
          exact (h.image 0 rfl).mono fun e w' ⟨v, he, hL⟩ => ⟨v, he, hL.str 4 rfl, by rw [hT]; exact hL.take 4⟩
        have HIM := Lib.hid IM
        clear IM
        have HT := Lib.hid hT
        clear hT hM L15 HS hbl hbb ha hb0 kc HNN hn5 hmb hcb hcb'
        refine wp_region_held_drew (S := fun w' => Apart w w.heap.size T w') (by kernel_rfl) (by exact LD) (fun hHeld => ?_)
        refine wpAnyH_take (i := 0) (oi := { dst := some 112, op := Op.move (Operand.tmp 14), type := 32, pos := "law.go:200", after := #[], guard := none }) (v := ?_) rfl (by kernel_rfl) (by kernel_rfl) (by kernel_rfl) (fun _ _ _ h => h) (Or.inl ⟨by rfl, ?_⟩) (by assumption) ?_
        rotate_left
        · (intro w hSw; (try dsimp only at hSw); go_simp; try with_reducible rfl)
        simp only [Act.put, List.setIfInBounds_toArray, List.set_cons_zero, List.set_cons_succ]
        refine wpAnyH_take (i := 1) (oi := { dst := some 113, op := Op.binOp BinOp.neq 32 (Operand.tmp 112) (Operand.const (Value.int IntKind.i64 0)) 32, type := 4, pos := "law.go:200", after := #[{ on := 0, ground := Ground.data }], guard := none }) (v := ?_) rfl (by kernel_rfl) (by kernel_rfl) (by kernel_rfl) (fun _ _ _ h => h) (Or.inl ⟨by rfl, ?_⟩) (by assumption) ?_
        rotate_left
        · (intro w hSw; (try dsimp only at hSw); go_simp; try with_reducible rfl)
        simp only [Act.put, List.setIfInBounds_toArray, List.set_cons_zero, List.set_cons_succ]
        refine wpAnyH_take (i := 2) (oi := { dst := some 114, op := Op.move (Operand.tmp 113), type := 4, pos := "law.go:200", after := #[{ on := 1, ground := Ground.data }], guard := none }) (v := ?_) rfl (by kernel_rfl) (by kernel_rfl) (by kernel_rfl) (fun _ _ _ h => h) (Or.inl ⟨by rfl, ?_⟩) (by assumption) ?_
        rotate_left
        · (intro w hSw; (try dsimp only at hSw); go_simp; try with_reducible rfl)
        simp only [Act.put, List.setIfInBounds_toArray, List.set_cons_zero, List.set_cons_succ]
        refine wpAnyH_take (i := 3) (oi := { dst := some 115, op := Op.move (Operand.tmp 13), type := 22, pos := "law.go:200", after := #[{ on := 2, ground := Ground.guard }], guard := some (2, false) }) (v := ?_) rfl (by kernel_rfl) (by kernel_rfl) (by kernel_rfl) (fun _ _ _ h => h) (Or.inl ⟨by rfl, ?_⟩) (by assumption) ?_
        rotate_left
        · (intro w hSw; (try dsimp only at hSw); go_simp; try with_reducible rfl)
        simp only [Act.put, List.setIfInBounds_toArray, List.set_cons_zero, List.set_cons_succ]
        refine wpAnyH_take (i := 4) (oi := { dst := some 116, op := Op.convert 22 9 (Operand.tmp 115), type := 9, pos := "law.go:200", after := #[{ on := 3, ground := Ground.data }, { on := 2, ground := Ground.guard }], guard := some (2, false) }) (v := ?_) rfl (by kernel_rfl) (by kernel_rfl) (by kernel_rfl) (fun _ _ _ h => h) (Or.inl ⟨by rfl, ?_⟩) (by assumption) ?_
        rotate_left
        · (intro w hSw; (try dsimp only at hSw); go_simp; try with_reducible rfl)
        simp only [Act.put, List.setIfInBounds_toArray, List.set_cons_zero, List.set_cons_succ]
        refine wpAnyH_take (i := 5) (oi := { dst := some 117, op := Op.move (Operand.tmp 10), type := 22, pos := "law.go:200", after := #[{ on := 2, ground := Ground.guard }], guard := some (2, false) }) (v := ?_) rfl (by kernel_rfl) (by kernel_rfl) (by kernel_rfl) (fun _ _ _ h => h) (Or.inl ⟨by rfl, ?_⟩) (by assumption) ?_
        rotate_left
        · (intro w hSw; (try dsimp only at hSw); go_simp; try with_reducible rfl)
        simp only [Act.put, List.setIfInBounds_toArray, List.set_cons_zero, List.set_cons_succ]
        refine wpAnyH_take (i := 6) (oi := { dst := some 118, op := Op.convert 22 9 (Operand.tmp 117), type := 9, pos := "law.go:200", after := #[{ on := 5, ground := Ground.data }, { on := 2, ground := Ground.guard }], guard := some (2, false) }) (v := ?_) rfl (by kernel_rfl) (by kernel_rfl) (by kernel_rfl) (fun _ _ _ h => h) (Or.inl ⟨by rfl, ?_⟩) (by assumption) ?_
        rotate_left
        · (intro w hSw; (try dsimp only at hSw); go_simp; try with_reducible rfl)
        simp only [Act.put, List.setIfInBounds_toArray, List.set_cons_zero, List.set_cons_succ]
        refine wpAnyH_take (i := 7) (oi := { dst := some 119, op := Op.binOp BinOp.neq 9 (Operand.tmp 116) (Operand.tmp 118) 9, type := 4, pos := "law.go:200", after := #[{ on := 4, ground := Ground.data }, { on := 6, ground := Ground.data }, { on := 2, ground := Ground.guard }], guard := some (2, false) }) (v := ?_) rfl (by kernel_rfl) (by kernel_rfl) (by kernel_rfl) (fun _ _ _ h => h) (Or.inl ⟨by rfl, ?_⟩) (by assumption) ?_
        rotate_left
        · (intro w hSw; (try dsimp only at hSw); go_simp; try with_reducible rfl)
        simp only [Act.put, List.setIfInBounds_toArray, List.set_cons_zero, List.set_cons_succ]
        refine wpAnyH_take (i := 8) (oi := { dst := some 120, op := Op.pick (Operand.tmp 114) (Operand.const (Value.bool true)) (Operand.tmp 119), type := 4, pos := "law.go:200", after := #[{ on := 2, ground := Ground.data }, { on := 7, ground := Ground.data }], guard := none }) (v := ?_) rfl (by kernel_rfl) (by kernel_rfl) (by kernel_rfl) (fun _ _ _ h => h) (Or.inl ⟨by rfl, ?_⟩) (by assumption) ?_
        rotate_left
        · (intro w hSw; (try dsimp only at hSw); go_simp; try with_reducible rfl)
        simp only [Act.put, List.setIfInBounds_toArray, List.set_cons_zero, List.set_cons_succ]
        refine wpAnyH_take (i := 9) (oi := { dst := some 121, op := Op.move (Operand.tmp 120), type := 4, pos := "law.go:200", after := #[{ on := 8, ground := Ground.data }, { on := 2, ground := Ground.chain }], guard := none }) (v := ?_) rfl (by kernel_rfl) (by kernel_rfl) (by kernel_rfl) (fun _ _ _ h => h) (Or.inl ⟨by rfl, ?_⟩) (by assumption) ?_
        rotate_left
        · (intro w hSw; (try dsimp only at hSw); go_simp; try with_reducible rfl)
        simp only [Act.put, List.setIfInBounds_toArray, List.set_cons_zero, List.set_cons_succ]
        refine wpAnyH_take (i := 10) (oi := { dst := some 122, op := Op.move (Operand.tmp 7), type := 40, pos := "law.go:200", after := #[{ on := 9, ground := Ground.guard }], guard := some (9, false) }) (v := ?_) rfl (by kernel_rfl) (by kernel_rfl) (by kernel_rfl) (fun _ _ _ h => h) (Or.inl ⟨by rfl, ?_⟩) (by assumption) ?_
        rotate_left
        · (intro w hSw; (try dsimp only at hSw); go_simp; try with_reducible rfl)
        simp only [Act.put, List.setIfInBounds_toArray, List.set_cons_zero, List.set_cons_succ]
        refine wpAnyH_take (i := 13) (oi := { dst := some 125, op := Op.move (Operand.tmp 12), type := 22, pos := "law.go:200", after := #[{ on := 9, ground := Ground.guard }], guard := some (9, false) }) (v := ?_) rfl (by kernel_rfl) (by kernel_rfl) (by kernel_rfl) (fun _ _ _ h => h) (Or.inl ⟨by rfl, ?_⟩) (by assumption) ?_
        rotate_left
        · (intro w hSw; (try dsimp only at hSw); go_simp; try with_reducible rfl)
        simp only [Act.put, List.setIfInBounds_toArray, List.set_cons_zero, List.set_cons_succ]
        refine wpAnyH_take (i := 14) (oi := { dst := some 126, op := Op.convert 22 9 (Operand.tmp 125), type := 9, pos := "law.go:200", after := #[{ on := 13, ground := Ground.data }, { on := 9, ground := Ground.guard }], guard := some (9, false) }) (v := ?_) rfl (by kernel_rfl) (by kernel_rfl) (by kernel_rfl) (fun _ _ _ h => h) (Or.inl ⟨by rfl, ?_⟩) (by assumption) ?_
        rotate_left
        · (intro w hSw; (try dsimp only at hSw); go_simp; try with_reducible rfl)
        simp only [Act.put, List.setIfInBounds_toArray, List.set_cons_zero, List.set_cons_succ]
        refine wpAnyH_ready (rs := [11]) (by kernel_rfl) (by simp) ?_
        refine AllReadyH.cons (o := { dst := some 123, op := Op.call { callee := Callee.value (Operand.func 34), args := #[Operand.tmp 122], argTypes := #[40] }, type := 22, pos := "law.go:200", after := #[{ on := 10, ground := Ground.data }, { on := 9, ground := Ground.chain }, { on := 9, ground := Ground.guard }], guard := some (9, false) }) rfl (fun K hK => ?_) AllReadyH.nil
        go_simp
        refine (HIM.out _ (by assumption)).mono ?_
        rintro e wa ⟨v9, rfl, S9, L9⟩
        try simp only []
        refine hK.out _ _ (by assumption) (fun hHeld => ?_)
        clear hK K
        try simp only [Act.put, List.setIfInBounds_toArray, List.set_cons_zero, List.set_cons_succ]
        refine wpAnyH_ready (rs := [12]) (by kernel_rfl) (by simp) ?_
        refine AllReadyH.cons (o := { dst := some 124, op := Op.convert 22 9 (Operand.tmp 123), type := 9, pos := "law.go:200", after := #[{ on := 11, ground := Ground.data }, { on := 9, ground := Ground.guard }], guard := some (9, false) }) rfl (fun K hK => ?_) AllReadyH.nil
        go_simp
        try simp only []
        refine hK.out _ _ (by assumption) (fun hHeld => ?_)
        clear hK K
        try simp only [Act.put, List.setIfInBounds_toArray, List.set_cons_zero, List.set_cons_succ]
        refine wpAnyH_take (i := 15) (oi := { dst := some 127, op := Op.binOp BinOp.neq 9 (Operand.tmp 124) (Operand.tmp 126) 9, type := 4, pos := "law.go:200", after := #[{ on := 12, ground := Ground.data }, { on := 14, ground := Ground.data }, { on := 9, ground := Ground.guard }], guard := some (9, false) }) (v := ?_) rfl (by kernel_rfl) (by kernel_rfl) (by kernel_rfl) (fun _ _ _ h => h) (Or.inl ⟨by rfl, ?_⟩) (by assumption) ?_
        rotate_left
        · (intro w hSw; (try dsimp only at hSw); go_simp; try with_reducible rfl)
        simp only [Act.put, List.setIfInBounds_toArray, List.set_cons_zero, List.set_cons_succ]
        refine wpAnyH_take (i := 16) (oi := { dst := some 128, op := Op.pick (Operand.tmp 121) (Operand.const (Value.bool true)) (Operand.tmp 127), type := 4, pos := "law.go:200", after := #[{ on := 9, ground := Ground.data }, { on := 15, ground := Ground.data }], guard := none }) (v := ?_) rfl (by kernel_rfl) (by kernel_rfl) (by kernel_rfl) (fun _ _ _ h => h) (Or.inl ⟨by rfl, ?_⟩) (by assumption) ?_
        rotate_left
        · (intro w hSw; (try dsimp only at hSw); go_simp; try with_reducible rfl)
        simp only [Act.put, List.setIfInBounds_toArray, List.set_cons_zero, List.set_cons_succ]
        refine wpAnyH_done (by kernel_rfl) ?_ _
        go_wp2_with fail
        go_meet
        exact ⟨rfl, by rw [← HT.out]; exact L9⟩
      case rest =>
        obtain ⟨rfl, L16⟩ := hcut
        go_wp2_with fail
        refine (L16.crashNew 0 rfl [256] 1 1 _ rfl (intsAt_new _ _) (by decide)).mono ?_
        rintro e w17 ⟨rfl, L17⟩
        rw [fd_crash hbl] at L17
        have HS2 : (lay s n (sect b)).length = 5 * 256 := by rw [lay_length _ _ _ (by rw [sect_length b hbl, HS.out]; omega), HS.out]
        have hsec : sector (lay s n (sect b)) n = sect b := sector_lay s HS.out hn5 _ (sect_length b hbl)
        replace L17 : Apart w w.heap.size [DiskT w.heap.size p (Dsk.of (lay s n (sect b))), BytesT w.heap.size va (sect b), BytesT w.heap.size vi s, BytesT w.heap.size vb (sect b)] w17 := L17
        generalize lay s n (sect b) = s2 at *
        have HS3 := Lib.hid HS2
        have HSEC := Lib.hid hsec
        clear HS2 hsec L16
        go_wp2_with fail
        refine (L17.read 0 rfl n).mono ?_
        rintro e w18 ⟨vn, rfl, L18⟩
        rw [of_wrong HS3.out hn5] at L18 ⊢
        replace L18 : Apart w w.heap.size [DiskT w.heap.size p (Dsk.of s2), BytesT w.heap.size va (sect b), BytesT w.heap.size vi s, BytesT w.heap.size vb (sect b), BytesT w.heap.size vn (sect b)] w18 := by
          rw [if_pos rfl, Int.toNat_natCast, show (Dsk.of s2).now = s2 from rfl, HSEC.out] at L18; exact L18
        clear L17
        have SA := L18.str 1 rfl
        have SN := L18.str 4 rfl
        go_wp2_with fail
        refine (L18.dead 0 rfl).mono ?_
        rintro e w' ⟨rfl, rfl⟩
        rw [show (Dsk.of s2).gone = false from rfl]
        go_wp2_with fail
        have y1 := of_why (n := n) (b := []) HS3.out hn5 (by decide)
        have y2 := of_write (n := n) (b := []) HS3.out hn5 (by decide)
        refine (L18.write 0 rfl (by show 0 + 1 ≤ _; omega) n none [] 0 0 rfl (BytesAt.nil _ _) (by decide)).mono ?_
        rintro e w19 ⟨rfl, L19⟩
        rw [y1]
        rw [y2] at L19
        clear L18 y1 y2 SA SN
        go_wp2_with fail
        refine (L19.sync 0 rfl).mono ?_
        rintro e w20 ⟨rfl, L20⟩
        rw [show (FD s2 n [] false false false).whySync = 0 from rfl]
        clear L19
        go_wp2_with fail
        refine L20.known3.mono ?_
        rintro e w21 ⟨rfl, L21⟩
        go_wp2
        go_ret
        exact ⟨rfl, L21.bel⟩

theorem fails_all (W : World) {v0 v2 : Value} {l0 : List OpV} {a1 : Int} {l2 : List UInt8} (o0 : RdO W v0 l0) (_w1 : (Lit.int .i64 a1).wf = true) (o2 : RdB W v2 l2) :
    Calls Try.prog 10 #[v0, .int .i64 a1, v2] W fun e w' => e = .returned (.bool true) ∧ Below W.heap.size W w' := by
  obtain ⟨a, c, rfl, h0, m0⟩ := o0
  obtain ⟨ab, cb, rfl, h2, -, m2, k2⟩ := o2
  exact fails_walk a l0 c a1 ab l2 cb W h0 m0 h2 m2 k2
end Go.Proofs.Ytdinnkacilgmmaa
