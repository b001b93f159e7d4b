/- The pager's fixed calls; what is not there. -/
import Derived.Test.YtdinnkacilgmmaaPPl2
import Derived.Test.YtdinnkacilgmmaaLift2
namespace Go.Proofs.Ytdinnkacilgmmaa
open Go.RowKit

theorem pwrite_bad (P : Pgr) (D : Dsk) (b : List UInt8) : (P.write D b).2.2.2.bad = D.bad := by
  have hd : ∀ n c, (D.write n c).bad = D.bad := fun n c => by unfold Dsk.write; split <;> rfl
  unfold Pgr.write
  split
  · rfl
  split
  · rfl
  split
  · rfl
  unfold Pgr.writeAt
  split
  · exact hd _ _
  · exact hd _ _
theorem PInv.flipOk {P : Pgr} {D : Dsk} {was : Nat → List UInt8} (h : PInv P D was) {page next : Int} {m : List UInt8} {l : List Int} (hgen : P.root.gen + 1 ≤ 1152921504606846976) (hw : P.whyFlip page next m l = 0) (hb : D.bad = false) : (P.flip D page next m l).1 = 0 := by
  by_cases h0 : (P.flip D page next m l).1 = 0
  · exact h0
  · rcases ((h.flip page next m l hgen).2 h0).2.2.2.2.2.2 with e | e
    · exact absurd hw e
    · rw [hb] at e; cases e

theorem crash_N {D : Dsk} (h : D.wf) (ks : List Int) : (D.crash ks).N = D.N := by
  show (crashed D.safe D.l ks).length / 256 = D.safe.length / 256
  rw [crashed_length _ _ _ h.fit]

/-- what the fixed calls leave -/
theorem known5_plain : ∃ (P1 P2 P3 P4 : Pgr) (D1 D2 D3 D4 : Dsk),
    (⟨0, 3, zeros4096, Rt.none, false⟩ : Pgr).write (Dsk.of (List.replicate (5 * 256) 0)) [97] = (0, 0, P1, D1) ∧ P1.write D1 [98] = (1, 0, P2, D2) ∧ P2.flip D2 0 1 [109] [0] = (0, P3, D3) ∧ P3.write D3 [99] = (1, 0, P4, D4) ∧
    (∃ was, PInv (⟨0, 3, zeros4096, Rt.none, false⟩ : Pgr) (Dsk.of (List.replicate (5 * 256) 0)) was) ∧ (∃ was, PInv P1 D1 was) ∧ (∃ was, PInv P2 D2 was) ∧ (∃ was, PInv P3 D3 was) ∧ (∃ was, PInv P4 D4 was) ∧
    D1.l.length ≤ 10 ∧ D2.l.length ≤ 10 ∧ D3.l.length ≤ 10 ∧ D4.l.length ≤ 10 ∧ P2.root.gen = 0 ∧ 5 ≤ (D4.crash []).N ∧
    (Pgr.opened 0 5 (D4.crash [])).root = ⟨1, 0, 1, [109]⟩ ∧ (Pgr.opened 0 5 (D4.crash [])).read (D4.crash []) 0 = (pad [97], 0) := by
  have i0 : PInv (⟨0, 3, zeros4096, Rt.none, false⟩ : Pgr) (Dsk.of (List.replicate (5 * 256) 0)) (fun _ => []) := PInv.start 5 (by decide) (by decide) (fun _ => [])
  have w1 := i0.writeFirst rfl [97] (by decide) 0 (by decide) (zeros4096_get 0) (fun k hk => by omega)
  have hb1 := pwrite_bad (⟨0, 3, zeros4096, Rt.none, false⟩ : Pgr) (Dsk.of (List.replicate (5 * 256) 0)) [97]
  obtain ⟨⟨y1, z1, P1, D1⟩, x1⟩ : ∃ o, (⟨0, 3, zeros4096, Rt.none, false⟩ : Pgr).write (Dsk.of (List.replicate (5 * 256) 0)) [97] = o := ⟨_, rfl⟩
  rw [x1] at w1 hb1
  obtain ⟨a1, a2, a3, a4, i1'⟩ := w1
  simp only at a1 a2 a3 a4 hb1 i1'
  subst a1 a2
  replace hb1 : D1.bad = false := hb1
  have e1 : P1 = ⟨0, 3, zeros4096.set 0 2, Rt.none, false⟩ := a3
  have l1 : D1.l.length ≤ 1 := a4
  have g1 : ∀ k, P1.is_.getD k 0 = if k = 0 then 2 else 0 := fun k => by
    rw [e1]; show (zeros4096.set 0 2).getD k 0 = _
    rw [getD_set _ _ _ _ (by rw [zeros4096_length]; decide), zeros4096_get]
  have w2 := i1'.writeFirst (congrArg Pgr.dead e1) [98] (by decide) 1 (by rw [congrArg Pgr.pages e1]; decide) (by rw [g1]; rfl) (fun k hk => by rw [g1, if_pos (by omega)]; decide)
  have hb2 := pwrite_bad P1 D1 [98]
  obtain ⟨⟨y2, z2, P2, D2⟩, x2⟩ : ∃ o, P1.write D1 [98] = o := ⟨_, rfl⟩
  rw [x2] at w2 hb2
  obtain ⟨b1, b2, b3, b4, i2'⟩ := w2
  simp only at b1 b2 b3 b4 hb2 i2'
  subst b1 b2
  rw [hb1] at hb2
  have e2 : P2 = ⟨0, 3, (zeros4096.set 0 2).set 1 2, Rt.none, false⟩ := by rw [b3, e1]
  have l2 : D2.l.length ≤ 2 := by omega
  have hw : P2.whyFlip 0 1 [109] [0] = 0 := by
    unfold Pgr.whyFlip
    have q1 : P2.badArgs 0 1 = false := by
      unfold Pgr.badArgs Pgr.there
      rw [e2]; rfl
    have q2 : [(0 : Int)].any P2.noFlip = false := by
      have : P2.is_.getD 0 0 = 2 := by
        rw [e2]; show ((zeros4096.set 0 2).set 1 2).getD 0 0 = 2
        rw [getD_set _ _ _ _ (by rw [List.length_set, zeros4096_length]; decide), if_neg (by decide), getD_set _ _ _ _ (by rw [zeros4096_length]; decide), if_pos rfl]
      have t : P2.there 0 = true := by unfold Pgr.there; rw [e2]; rfl
      show (P2.noFlip 0 || false) = false
      unfold Pgr.noFlip
      rw [t, show (0 : Int).toNat = 0 from rfl, this]
      rfl
    rw [if_neg (by rw [congrArg Pgr.dead e2]; decide), q1, q2]
    rfl
  have hg2 : P2.root.gen = 0 := by rw [e2]; rfl
  have c1 := i2'.flipOk (by rw [hg2]; decide) hw hb2
  have w3 := (i2'.flip 0 1 [109] [0] (by rw [hg2]; decide)).1 c1
  obtain ⟨⟨y3, P3, D3⟩, x3⟩ : ∃ o, P2.flip D2 0 1 [109] [0] = o := ⟨_, rfl⟩
  rw [x3] at w3 c1
  obtain ⟨-, -, c2, c3, c4, i3'⟩ := w3
  simp only at c1 c2 c3 c4 i3'
  subst c1
  have e3 : P3 = ⟨0, 3, setAll [0] zeros4096, ⟨1, 0, 1, [109]⟩, false⟩ := by
    rw [c2]
    unfold Pgr.toFlip
    rw [e2]; rfl
  have l3 : D3.l = [] := c3
  have g3 : ∀ k, k < 4096 → P3.is_.getD k 0 = if k = 0 then 1 else 0 := fun k hk => by
    rw [e3]; show (setAll [0] zeros4096).getD k 0 = _
    rw [setAll_get _ _ hk _ zeros4096_length (by decide), zeros4096_get]
    by_cases h : k = 0
    · subst h; rfl
    · rw [if_neg h, if_neg (by rw [List.mem_singleton]; omega)]
  have w4 := i3'.writeFirst (congrArg Pgr.dead e3) [99] (by decide) 1 (by rw [congrArg Pgr.pages e3]; decide) (by rw [g3 _ (by decide)]; rfl) (fun k hk => by rw [g3 _ (by omega), if_pos (by omega)]; decide)
  obtain ⟨⟨y4, z4, P4, D4⟩, x4⟩ : ∃ o, P3.write D3 [99] = o := ⟨_, rfl⟩
  rw [x4] at w4
  obtain ⟨d1, d2, d3, d4, i4'⟩ := w4
  simp only at d1 d2 d3 d4 i4'
  subst d1 d2
  have e4 : P4 = ⟨0, 3, (setAll [0] zeros4096).set 1 2, ⟨1, 0, 1, [109]⟩, false⟩ := by rw [d3, e3]
  have l4 : D4.l.length ≤ 1 := by rw [l3] at d4; exact d4
  obtain ⟨r1, r2⟩ := i4'.crash []
  have hn4 : 5 ≤ (D4.crash []).N := by
    rw [crash_N i4'.dw]
    have := i4'.pw.fit
    rw [congrArg Pgr.pages e4, congrArg Pgr.frm e4] at this
    exact this
  have r2' := r2 0 (by rw [congrArg Pgr.pages e4]; decide) (by
    rw [e4]; show ((setAll [0] zeros4096).set 1 2).getD 0 0 = 1
    rw [getD_set _ _ _ _ (by rw [setAll_length, zeros4096_length]; decide), if_neg (by decide), setAll_get _ _ (by decide) _ zeros4096_length (by decide), if_pos (by decide)])
  rw [e4] at r1 r2'
  refine ⟨P1, P2, P3, P4, D1, D2, D3, D4, x1, x2, x3, x4, ⟨_, i0⟩, ⟨_, i1'⟩, ⟨_, i2'⟩, ⟨_, i3'⟩, ⟨_, i4'⟩, by omega, by omega, by rw [l3]; decide, by omega, hg2, hn4, r1, ?_⟩
  exact r2'

section
variable {w0 w : World} {B : Nat} {Ts : List (Thg B)}
/-- numbers that were just laid -/
theorem Apart.laidInts (h : Apart w0 B Ts w) (l : List Int) (hl : l.length ≤ 1000) (C : Array Value) (hC : C = (l.map fun n => Value.int .i64 n).toArray) : Apart w0 B (Ts ++ [IntsT B (.slice (some ⟨w.heap.size, 0, none⟩) l.length l.length) l]) (w.alloc (.cells C 3)) := by
  refine h.more (IntsT B (.slice (some ⟨w.heap.size, 0, none⟩) l.length l.length) l) (Mod.alloc _ _ _) ⟨?_, rfl⟩ (fun k hk => by cases hk; exact Nat.le_refl _)
  have := World.ownsRow_lit (w := w) (base := B) (e := 3) (size := 1) C l.length h.le (by unfold maxLen; omega) (by rw [hC]; simp)
  rw [hC] at this ⊢
  exact this
theorem Apart.popen2 {p : Nat} {D : Dsk} (h : Apart w0 B Ts w) (d : Nat) (hd : Ts[d]? = some (DiskT B p D)) (frm size : Nat) (hf : frm ≤ D.N) (hs3 : 3 ≤ size) (hsz : size ≤ D.N - frm) :
    Calls Try.prog 65 #[.pointer (some ⟨p, 0, none⟩), .int .i64 (frm : Int), .int .i64 (size : Int)] w fun e w' => ∃ q a c, e = .returned (.tuple #[.pointer (some ⟨q, 0, none⟩), rootV (Pgr.opened frm size D).root (.slice a (Pgr.opened frm size D).root.mt.length c), .int .i64 0]) ∧
      Apart w0 B (Ts ++ [PT B q p (Pgr.opened frm size D), BytesT B (.slice a (Pgr.opened frm size D).root.mt.length c) (Pgr.opened frm size D).root.mt]) w' := by
  refine (h.popen d hd frm size hf hs3 hsz).mono ?_
  rintro e w' ⟨q, vr, he, L⟩
  obtain ⟨a, c, rfl, -⟩ := (L.bytes (Ts.length + 1) (v := vr) (l := (Pgr.opened frm size D).root.mt) (by simp)).shape
  exact ⟨q, a, c, he, L⟩
end

set_option maxRecDepth 100000 in
set_option maxHeartbeats 4000000 in
theorem known5_any (w : World) : Calls Try.prog 70 #[] w fun e w' => e = .returned (.bool true) ∧ Below w.heap.size w w' := by
  have L0 : Apart w w.heap.size [] w := Apart.nil (Below.refl _ _) (Nat.le_refl _)
  obtain ⟨P1, P2, P3, P4, D1, D2, D3, D4, f1, f2, f3, f4, ⟨_, i0⟩, ⟨_, i1⟩, ⟨_, i2⟩, ⟨_, i3⟩, ⟨_, i4⟩, g1, g2, g3, g4, k1, k2, k3, k4⟩ := known5_plain
  have kc := fun w C n c => Lib.run_convert_bytes_const (P := Try.prog) w 22 5 C n c Try.underlying22 Try.underlying5
  have hop := opened_zeros 5 (by decide)
  go_enter Try.func70, Try.ntmps70
  go_wp2_with fail
  refine (L0.newDisk 5 (by decide) (by decide)).mono ?_
  rintro e w1 ⟨p, rfl, L1⟩
  clear L0
  go_wp2_with fail
  have K2 := L1.popen2 0 rfl 0 5 (by decide) (by decide) (by simp [Dsk.of, Dsk.N])
  rw [hop] at K2
  refine K2.mono ?_
  rintro e w2 ⟨q, a2, c2, rfl, L2⟩
  clear K2 hop
  replace L2 : Apart w w.heap.size [DiskT w.heap.size p (Dsk.of (List.replicate (5 * 256) 0)), PT w.heap.size q p ⟨0, 3, zeros4096, Rt.none, false⟩] w2 := L2.take 2
  rw [show rootV Rt.none (.slice a2 Rt.none.mt.length c2) = .agg #[.int .i64 0, .int .i64 (-1), .int .i64 1, .slice a2 0 c2] from rfl]
  clear L1
  have I0 := Lib.hid i0
  have I1 := Lib.hid i1
  have I2 := Lib.hid i2
  have I3 := Lib.hid i3
  have K1 := Lib.hid k1
  have K3 := Lib.hid k3
  have K4 := Lib.hid k4
  have G1 := Lib.hid f1
  have G2 := Lib.hid f2
  have G3 := Lib.hid f3
  have G4 := Lib.hid f4
  clear i0 i1 i2 i3 i4 k1 k3 k4 f1 f2 f3 f4
  go_upto_region 7 with fail
  obtain ⟨W3, hW3⟩ : ∃ W3, W3 = w2.alloc (Obj.cells #[Value.int IntKind.i64 0, Value.int IntKind.i64 (-1), Value.int IntKind.i64 1, Value.slice a2 0 c2] 95) := ⟨_, rfl⟩
  rw [← hW3]
  have L3 := L2.alloc (Obj.cells #[Value.int IntKind.i64 0, Value.int IntKind.i64 (-1), Value.int IntKind.i64 1, Value.slice a2 0 c2] 95)
  rw [← hW3] at L3
  clear hW3 L2
  generalize w2.heap.size = kr at *
  have KW := (L3.alloc (.cells #[.int .u8 97] 5 (1, 2))).pwrite 1 0 rfl rfl (by decide) I0.out.pw (by show 0 + 1 ≤ _; decide) _ [97] 1 1 rfl (bytesAt_new' rfl rfl)
  rw [G1.out] at KW
  replace KW := Lib.hid KW
  go_wp2_with fail
  refine KW.out.mono ?_
  rintro e w4 ⟨rfl, L4⟩
  replace L4 : Apart w w.heap.size [DiskT w.heap.size p D1, PT w.heap.size q p P1] w4 := L4
  clear L3 KW
  have KW := (L4.alloc (.cells #[.int .u8 98] 5 (1, 2))).pwrite 1 0 rfl rfl (by decide) I1.out.pw (by omega) _ [98] 1 1 rfl (bytesAt_new' rfl rfl)
  rw [G2.out] at KW
  replace KW := Lib.hid KW
  go_wp2_with fail
  refine KW.out.mono ?_
  rintro e w5 ⟨rfl, L5⟩
  replace L5 : Apart w w.heap.size [DiskT w.heap.size p D2, PT w.heap.size q p P2] w5 := L5
  clear L4 KW
  have L6 := (L5.alloc (.cells #[.int .u8 109] 5 (1, 2))).laidInts [0] (by decide) #[.int .i64 0] rfl
  have hb6 : BytesAt ((w5.alloc (.cells #[.int .u8 109] 5 (1, 2))).alloc (.cells #[.int .i64 0] 3)) (some ⟨w5.heap.size, 0, none⟩) [109] := BytesAt.mod (bytesAt_new' rfl rfl) (Mod.alloc (fun _ => False) _ _) (fun _ _ _ => id)
  have KF := L6.pflipT 1 0 2 rfl rfl (by decide) I2.out.pw (by omega) (by rw [K1.out]; decide) 0 1 _ [109] 1 1 rfl (by decide) (fun e => by cases e) hb6 _ [0] 1 1 rfl (by decide) rfl (by decide) (by decide)
  rw [G3.out] at KF
  simp only [World.size_alloc] at KF
  replace KF := Lib.hid KF
  clear L6 hb6
  go_wp2_with fail
  refine KF.out.mono ?_
  rintro e w6 ⟨rfl, L6⟩
  replace L6 : Apart w w.heap.size [DiskT w.heap.size p D3, PT w.heap.size q p P3] w6 := L6.take 2
  clear L5 KF
  have KW := (L6.alloc (.cells #[.int .u8 99] 5 (1, 2))).pwrite 1 0 rfl rfl (by decide) I3.out.pw (by omega) _ [99] 1 1 rfl (bytesAt_new' rfl rfl)
  rw [G4.out] at KW
  replace KW := Lib.hid KW
  go_wp2_with fail
  refine KW.out.mono ?_
  rintro e w7 ⟨rfl, L7⟩
  replace L7 : Apart w w.heap.size [DiskT w.heap.size p D4, PT w.heap.size q p P4] w7 := L7
  clear L6 KW
  go_wp2_with fail
  refine (L7.crashNil 0 rfl).mono ?_
  rintro e w8 ⟨rfl, L8⟩
  replace L8 : Apart w w.heap.size [DiskT w.heap.size p (D4.crash []), PT w.heap.size q p P4] w8 := L8
  clear L7
  obtain ⟨P5, hP5⟩ : ∃ P5, P5 = Pgr.opened 0 5 (D4.crash []) := ⟨_, rfl⟩
  have KO := L8.popen2 0 rfl 0 5 (by omega) (by decide) (by omega)
  rw [K3.out, ← hP5] at KO
  have KX : P5.root = ⟨1, 0, 1, [109]⟩ := by rw [hP5]; exact K3.out
  have KR : P5.read (D4.crash []) 0 = (pad [97], 0) := by rw [hP5]; exact K4.out
  have hfr : P5.frm = 0 ∧ P5.pages = 3 := by rw [hP5]; exact ⟨rfl, rfl⟩
  replace KO := Lib.hid KO
  have KRh := Lib.hid KR
  have HFR := Lib.hid hfr
  clear hP5 KX KR hfr
  go_wp2_with fail
  refine KO.out.mono ?_
  rintro e w9 ⟨q2, a9, c9, rfl, L9⟩
  clear KO L8
  rw [show rootV ⟨1, 0, 1, [109]⟩ (.slice a9 ([109] : List UInt8).length c9) = .agg #[.int .i64 1, .int .i64 0, .int .i64 1, .slice a9 1 c9] from rfl]
  replace L9 : Apart w w.heap.size [DiskT w.heap.size p (D4.crash []), PT w.heap.size q p P4, PT w.heap.size q2 p P5, BytesT w.heap.size (.slice a9 1 c9) [109]] w9 := L9
  go_upto_region 15 with fail
  obtain ⟨W10, hW10⟩ : ∃ W10, W10 = w9.alloc (Obj.cells #[Value.int IntKind.i64 1, Value.int IntKind.i64 0, Value.int IntKind.i64 1, Value.slice a9 1 c9] 95) := ⟨_, rfl⟩
  rw [← hW10]
  have L10 := L9.alloc (Obj.cells #[Value.int IntKind.i64 1, Value.int IntKind.i64 0, Value.int IntKind.i64 1, Value.slice a9 1 c9] 95)
  have hb10 : W10.heap[w9.heap.size]? = some (.cells #[Value.int IntKind.i64 1, Value.int IntKind.i64 0, Value.int IntKind.i64 1, Value.slice a9 1 c9] 95 (0, 0)) := by rw [hW10]; exact heap_alloc_new _ _
  rw [← hW10] at L10
  clear hW10 L9
  generalize w9.heap.size = k9 at *
  have KR := L10.pread 2 0 rfl rfl (by rw [HFR.out.1, HFR.out.2]; exact k2) 0
  rw [KRh.out] at KR
  replace KR := Lib.hid KR
  go_wp2_with fail
  refine KR.out.mono ?_
  rintro e w11 ⟨v, rfl, ⟨av, cv, rfl, hbv, -, -, -⟩, m11⟩
  have L11 := L10.still m11
  have hb11 := m11.obj hb10 id
  have hc := fun j => cell_of_row w11 k9 j _ 95 (0, 0) hb11
  have d0 := hc 0
  have d1 := hc 1
  have d2 := hc 2
  have d3 := hc 3
  simp only [List.getElem?_toArray, List.getElem?_cons_zero, List.getElem?_cons_succ] at d0 d1 d2 d3
  have hpl : (pad [(97 : UInt8)]).length = 252 := pad_length _ (by decide)
  have hpl' : (pad [(97 : UInt8)]) = 97 :: List.replicate 251 0 := by unfold pad; rfl
  obtain ⟨gv, ov, rfl, hcv⟩ := hbv (by rw [hpl']; exact List.cons_ne_nil _ _)
  have x0 := hcv 0 (by rw [hpl]; decide)
  have e0 : (pad [(97 : UInt8)])[0]'(by rw [hpl]; decide) = 97 := by simp only [hpl', List.getElem_cons_zero]
  rw [e0, Nat.add_zero] at x0
  rw [hpl]
  have KA : Calls Try.prog 74 #[.agg #[.int .i64 1, .int .i64 0, .int .i64 1, .slice a9 1 c9]] w11 fun e w' => e = .returned (.agg #[.int .i64 1, .int .i64 0, .int .i64 1, .slice a9 1 c9]) ∧ Mod (fun _ => False) w11 w' := as_any ⟨1, 0, 1, [109]⟩ a9 1 c9
  have HKA := Lib.hid KA
  have HB9 := Lib.hid (show BytesAt w11 a9 [109] by
    have := L11.bytes 3 (v := .slice a9 1 c9) (l := [109]) rfl
    obtain ⟨a', c', e, -, -, h⟩ := this.shape
    cases e
    exact h)
  have X0 := Lib.hid x0
  have HL11 := Lib.hid L11
  clear KR hb10 hb11 hc m11 hpl hpl' e0 hcv L10 KA x0 L11
  unfold byteV at X0
  go_wp2_with fail
  refine HKA.out.mono ?_
  rintro e w12 ⟨rfl, m12⟩
  have L13 := (HL11.out.still m12).alloc (.cells #[.int .u8 109] 5 (1, 2))
  have m13 : Mod (fun _ => False) w11 (w12.alloc (.cells #[.int .u8 109] 5 (1, 2))) := m12.trans' (Mod.alloc _ _ _)
  have KS : Calls Try.prog 73 #[.agg #[.int .i64 1, .int .i64 0, .int .i64 1, .slice a9 1 c9], .agg #[.int .i64 1, .int .i64 0, .int .i64 1, .slice (some ⟨w12.heap.size, 0, none⟩) 1 1]] (w12.alloc (.cells #[.int .u8 109] 5 (1, 2))) fun e w' => e = .returned (.bool true) ∧ Mod (fun _ => False) (w12.alloc (.cells #[.int .u8 109] 5 (1, 2))) w' := by
    have := same_any (w := w12.alloc (.cells #[.int .u8 109] 5 (1, 2))) ⟨1, 0, 1, [109]⟩ ⟨1, 0, 1, [109]⟩ a9 1 c9 (some ⟨w12.heap.size, 0, none⟩) 1 1 rfl rfl (HB9.out.mod m13 (fun _ _ _ => id)) (bytesAt_new' rfl rfl)
    rw [Rt.same_self] at this
    exact this
  have HKS := Lib.hid KS
  have M13 := Lib.hid m13
  have HL13 := Lib.hid L13
  clear m12 m13 KS HKA L13
  go_wp2_with fail
  refine HKS.out.mono ?_
  rintro e w14 ⟨rfl, m14⟩
  have x0 := (M13.out.trans' m14).cell' X0.out id
  have hbel := (HL13.out.still m14).bel
  clear m14
  go_wp2
  go_ret
  exact ⟨rfl, hbel⟩

theorem Apart.known5 {w0 w : World} {B : Nat} {Ts : List (Thg B)} (h : Apart w0 B Ts w) : Calls Try.prog 70 #[] w fun e w' => e = .returned (.bool true) ∧ Apart w0 B Ts w' :=
  (known5_any w).mono fun _ _ ⟨he, hb⟩ => ⟨he, h.next hb⟩

theorem as_zero {w : World} : Calls Try.prog 74 #[.agg #[.int .i64 0, .int .i64 0, .int .i64 0, .slice none 0 0]] w fun e w' => e = .returned (.agg #[.int .i64 0, .int .i64 0, .int .i64 0, .slice none 0 0]) ∧ Mod (fun _ => False) w w' := as_any ⟨0, 0, 0, []⟩ none 0 0
theorem same_zero {w : World} : Calls Try.prog 73 #[.agg #[.int .i64 0, .int .i64 0, .int .i64 0, .slice none 0 0], .agg #[.int .i64 0, .int .i64 0, .int .i64 0, .slice none 0 0]] w fun e w' => e = .returned (.bool true) ∧ Mod (fun _ => False) w w' := by
  have := same_any (w := w) ⟨0, 0, 0, []⟩ ⟨0, 0, 0, []⟩ none 0 0 none 0 0 rfl rfl (BytesAt.nil _ _) (BytesAt.nil _ _)
  rw [Rt.same_self] at this
  exact this

set_option maxRecDepth 100000 in
set_option maxHeartbeats 4000000 in
theorem pnil_walk (w : World) (a : Option Addr) (l c : Nat) (n : Int) :
    Calls Try.prog 23 #[.slice a l c, .int .i64 n] w fun e w' => e = .returned (.bool true) ∧ Below w.heap.size w w' := by
  have L0 : Apart w w.heap.size [] w := Apart.nil (Below.refl _ _) (Nat.le_refl _)
  have KO := popen_nil (w := w) 0 5
  unfold zeroRt at KO
  go_enter Try.func23, Try.ntmps23
  go_wp2_with fail
  refine KO.mono ?_
  rintro e w1 ⟨rfl, m1⟩
  clear KO
  have L1 := L0.still m1
  go_upto_region 3 with fail
  obtain ⟨W2, hW2⟩ : ∃ W2, W2 = w1.alloc (Obj.cells #[.int .i64 0, .int .i64 0, .int .i64 0, .slice none 0 0] 95) := ⟨_, rfl⟩
  rw [← hW2]
  have L2 := L1.alloc (Obj.cells #[.int .i64 0, .int .i64 0, .int .i64 0, .slice none 0 0] 95)
  have hb2 : W2.heap[w1.heap.size]? = some (.cells #[.int .i64 0, .int .i64 0, .int .i64 0, .slice none 0 0] 95 (0, 0)) := by rw [hW2]; exact heap_alloc_new _ _
  rw [← hW2] at L2
  clear hW2 L1 L0 m1
  generalize w1.heap.size = k1 at *
  go_wp2_with fail
  refine (pread_nil n).mono ?_
  rintro e w' ⟨rfl, rfl⟩
  go_wp2_with fail
  refine (pwrite_nil _ _ _).mono ?_
  rintro e w3 ⟨rfl, m3⟩
  have hb3 := m3.obj hb2 id
  have hc := fun j => cell_of_row w3 k1 j _ 95 (0, 0) hb3
  have d0 := hc 0
  have d1 := hc 1
  have d2 := hc 2
  have d3 := hc 3
  simp only [List.getElem?_toArray, List.getElem?_cons_zero, List.getElem?_cons_succ] at d0 d1 d2 d3
  have L3 := L2.still m3
  clear hb3 hb2 hc m3 L2
  go_wp2_with fail
  refine as_zero.mono ?_
  rintro e w4 ⟨rfl, m4⟩
  have L4 := L3.still m4
  clear L3 m4 d0 d1 d2 d3
  go_wp2_with fail
  refine same_zero.mono ?_
  rintro e w5 ⟨rfl, m5⟩
  have L5 := L4.still m5
  clear L4 m5
  go_wp2_with fail
  refine (puse_nil _ _ _).mono ?_
  rintro e w6 ⟨rfl, m6⟩
  have L6 := L5.still m6
  clear L5 m6
  go_wp2_with fail
  refine (prelease_nil n).mono ?_
  rintro e w' ⟨rfl, rfl⟩
  go_wp2_with fail
  refine (pflip_nil n 1 _ _ _ _ _ _).mono ?_
  rintro e w7 ⟨rfl, m7⟩
  have L7 := L6.still m7
  clear L6 m7
  go_wp2_with fail
  refine pfree_nil.mono ?_
  rintro e w' ⟨rfl, rfl⟩
  have KR := proot_nil (w := w7)
  unfold zeroRt at KR
  go_wp2_with fail
  refine KR.mono ?_
  rintro e w8 ⟨rfl, m8⟩
  have L8 := L7.still m8
  clear L7 m8 KR
  go_wp2_with fail
  refine as_zero.mono ?_
  rintro e w9 ⟨rfl, m9⟩
  have L9 := L8.still m9
  clear L8 m9
  go_wp2_with fail
  refine same_zero.mono ?_
  rintro e w10 ⟨rfl, m10⟩
  have L10 := L9.still m10
  clear L9 m10
  go_wp2_with fail
  refine pdead_nil.mono ?_
  rintro e w' ⟨rfl, rfl⟩
  go_wp2_with fail
  refine L10.known5.mono ?_
  rintro e w11 ⟨rfl, L11⟩
  have hb := L11.bel
  go_wp2
  go_ret
  exact ⟨rfl, hb⟩

theorem pnil_all (W : World) {v0 : Value} {l0 : List UInt8} (o0 : RdB W v0 l0) {a1 : Int} {P : Prop} (_ : P) : Calls Try.prog 23 #[v0, .int .i64 a1] W fun e W' => e = .returned (.bool true) ∧ Below W.heap.size W W' := by
  obtain ⟨a, cap, rfl, -⟩ := o0
  exact pnil_walk W a _ cap a1
end Go.Proofs.Ytdinnkacilgmmaa
