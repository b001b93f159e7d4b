/- PagerFlips. -/
import Derived.Test.YtdinnkacilgmmaaPag18
namespace Go.Proofs.Ytdinnkacilgmmaa
open Go.RowKit

/-- what stands at each step: S is the root that was last answered, used the pages that it uses -/
structure FlipsI (i : Nat) (P : Pgr) (D : Dsk) (used : List Int) (was : Nat → List UInt8) (S : Rt) : Prop where
  inv : PInv P D was
  pages : P.pages = 7
  frm : P.frm = 0
  gen : P.root.gen ≤ i
  l : D.l.length ≤ i
  root : P.root = S
  used : ∀ x ∈ used, ∃ n : Nat, x = (n : Int) ∧ n < 7 ∧ P.is_.getD n 0 = 1

theorem FlipsI.next {i : Nat} {P : Pgr} {D : Dsk} {used : List Int} {was : Nat → List UInt8} {S : Rt} (h : FlipsI i P D used was S) : FlipsI (i + 1) P D used was S := ⟨h.inv, h.pages, h.frm, by have := h.gen; omega, by have := h.l; omega, h.root, h.used⟩
theorem FlipsI.write {i : Nat} {P : Pgr} {D : Dsk} {used : List Int} {was : Nat → List UInt8} {S : Rt} (h : FlipsI i P D used was S) (b : List UInt8) :
    ((P.write D b).2.1 = 0 → ∃ e : Nat, (P.write D b).1 = (e : Int) ∧ e < 7 ∧ (∀ x ∈ used, x ≠ (e : Int)) ∧ FlipsI (i + 1) (P.write D b).2.2.1 (P.write D b).2.2.2 used (fun m => if m = e then b else was m) S) ∧
    ((P.write D b).2.1 ≠ 0 → (P.write D b).2.2.1 = P ∧ (P.write D b).2.2.2 = D) := by
  obtain ⟨h1, h2⟩ := h.inv.write b
  refine ⟨fun hz => ?_, h2⟩
  obtain ⟨e, e1, e2, e3, e4, e5, e6, -, e8⟩ := h1 hz
  have hp := h.pages
  have hlen := h.inv.pw.len
  have hne : ∀ x ∈ used, x ≠ (e : Int) := fun x hx he => by
    obtain ⟨n, rfl, -, n3⟩ := h.used x hx
    have : n = e := by omega
    rw [this, e3] at n3
    exact absurd n3 (by decide)
  refine ⟨e, e1, by omega, hne, e8, by rw [e5]; exact hp, by rw [e5]; exact h.frm, by rw [e5]; have := h.gen; show P.root.gen ≤ _; omega, by have := h.l; omega, by rw [e5]; exact h.root, fun x hx => ?_⟩
  obtain ⟨n, rfl, n2, n3⟩ := h.used x hx
  refine ⟨n, rfl, n2, ?_⟩
  rw [e5]
  show (P.is_.set e 2).getD n 0 = 1
  rw [getD_set _ _ _ _ (by omega), if_neg (fun he => hne _ hx (by omega))]
  exact n3
theorem FlipsI.fail {i : Nat} {P : Pgr} {D : Dsk} {used : List Int} {was : Nat → List UInt8} {S : Rt} (h : FlipsI i P D used was S) : FlipsI (i + 1) P { D with bad := true } used was S := ⟨h.inv.fail, h.pages, h.frm, by have := h.gen; omega, by have := h.l; show D.l.length ≤ _; omega, h.root, h.used⟩
theorem FlipsI.flip {i : Nat} {P : Pgr} {D : Dsk} {used : List Int} {was : Nat → List UInt8} {S : Rt} (h : FlipsI i P D used was S) (hi60 : i ≤ 60) (page next : Int) (m : List UInt8) (l : List Int) :
    ((P.flip D page next m l).1 = 0 → FlipsI (i + 1) (P.flip D page next m l).2.1 (P.flip D page next m l).2.2 l was (P.flip D page next m l).2.1.root) ∧
    ((P.flip D page next m l).1 ≠ 0 → FlipsI (i + 1) (P.flip D page next m l).2.1 (P.flip D page next m l).2.2 used was S) := by
  have hg := h.gen
  have hp := h.pages
  obtain ⟨h1, h2⟩ := h.inv.flip page next m l (by omega)
  refine ⟨fun hc => ?_, fun hc => ?_⟩
  · obtain ⟨e1, e2, e3, e4, e5, e6⟩ := h1 hc
    obtain ⟨-, -, -, hl, -⟩ := whyFlip_ok e1
    refine ⟨e6, by rw [e3]; exact hp, by rw [e3]; exact h.frm, by rw [e3]; show P.root.gen + 1 ≤ i + 1; omega, by rw [e4]; exact Nat.zero_le _, rfl, fun x hx => ?_⟩
    obtain ⟨n, rfl, n2, -⟩ := hl x hx
    refine ⟨n, rfl, by omega, ?_⟩
    rw [e3]
    show (setAll l zeros4096).getD n 0 = 1
    rw [setAll_get l n (by omega) _ zeros4096_length (fun y hy => by obtain ⟨k, rfl, k2, -⟩ := hl y hy; omega), if_pos hx]
  · obtain ⟨e1, e2, e3, e4, e5, e6, -⟩ := h2 hc
    exact ⟨e6, by rw [e4]; exact hp, by rw [e3]; exact h.frm, by rw [e1]; omega, by rw [e5]; have := h.l; omega, by rw [e1]; exact h.root, fun x hx => by
      obtain ⟨n, n1, n2, n3⟩ := h.used x hx
      exact ⟨n, n1, n2, by rw [e2]; exact n3⟩⟩
theorem FlipsI.crash {i : Nat} {P : Pgr} {D : Dsk} {used : List Int} {was : Nat → List UInt8} {S : Rt} (h : FlipsI i P D used was S) (ks : List Int) : (Pgr.opened 0 9 (D.crash ks)).root = S ∧ 9 ≤ (D.crash ks).N ∧
    ∀ k, k < used.length → ∃ n : Nat, used[k]? = some (n : Int) ∧ n < 7 ∧ (Pgr.opened 0 9 (D.crash ks)).read (D.crash ks) (n : Int) = (pad (was n), 0) ∧ (was n).length ≤ 252 := by
  obtain ⟨h1, h2⟩ := h.inv.crash ks
  rw [h.frm, h.pages, h.root] at h1
  rw [h.frm, h.pages] at h2
  refine ⟨h1, ?_, fun k hk => ?_⟩
  · rw [crash_N h.inv.dw]
    have := h.inv.pw.fit
    rw [h.frm, h.pages] at this
    exact this
  · obtain ⟨n, n1, n2, n3⟩ := h.used _ (List.getElem_mem hk)
    exact ⟨n, by rw [List.getElem?_eq_getElem hk, n1], n2, h2 n n2 n3, (h.inv.now n (by rw [h.pages]; exact n2) (by rw [n3]; decide)).2⟩

def TF5 (w0 : World) (p q kr kw kt : Nat) (D : Dsk) (P : Pgr) (S : Rt) (was : Nat → List UInt8) : List (Thg w0.heap.size) := [DiskT w0.heap.size p D, PT w0.heap.size q p P, RootT w0.heap.size kr S, WasT w0 w0.heap.size kw was, AnyRootT w0.heap.size kt]
def TF5o (w0 : World) (p q kr kw kt : Nat) (D : Dsk) (P : Pgr) (S : Rt) (was : Nat → List UInt8) (k : Nat) (o : Obj) : List (Thg w0.heap.size) := [DiskT w0.heap.size p D, PT w0.heap.size q p P, RootT w0.heap.size kr S, WasT w0 w0.heap.size kw was, AnyRootT w0.heap.size kt, BlkT w0.heap.size k o]
theorem run_field95 (w : World) (g pg n : Int) (a : Option Addr) (k c : Nat) : (Instr.field 95 (.agg #[.int .i64 g, .int .i64 pg, .int .i64 n, .slice a k c]) 0).run Try.prog w = .ok (.int .i64 g) w := by kernel_rfl
/-- some slice value -/
def SomeSl (v : Value) : Prop := ∃ a n c, v = .slice a n c

set_option maxHeartbeats 4000000 in
set_option maxRecDepth 100000 in
theorem flips_walk (a : Option Addr) (l : List OpW) (cap : Nat) (ak : Option Addr) (ks : List Int) (capk : Nat) (w : World) (ha : OpWsAt w a l) (hk : IntsAt w ak ks) (hkl : ks.length ≤ 140737488351232) :
    Calls Try.prog 21 #[.slice a l.length cap, .slice ak ks.length capk] w fun e w' => e = .returned (.bool true) ∧ Below w.heap.size w w' := by
  have L0 : Apart w w.heap.size [] w := Apart.nil (Below.refl _ _) (Nat.le_refl _)
  have hop := opened_zeros 9 (by decide)
  have hinv := PInv.start 9 (by decide) (by decide) (fun _ => [])
  have kn : ∀ (w : World) (a : Option Addr) (n c : Nat), (binOp .eql 39 (.slice a n c) (.slice none 0 0)).run Try.prog w = .ok (.bool a.isNone) w := fun w a n c => Lib.run_eql_slice_nil w 39 3 a n c 0 0 Try.underlying39
  go_enter Try.func21, Try.ntmps21
  go_wp2_with fail
  refine (L0.newDisk 9 (by decide) (by decide)).mono ?_
  rintro e w1 ⟨p, rfl, L1⟩
  clear L0
  have K2 := L1.popen2 0 rfl 0 9 (by decide) (by decide) (by simp [Dsk.of, Dsk.N])
  rw [hop] at K2
  go_wp2_with fail
  refine K2.mono ?_
  rintro e w2 ⟨q, a2, c2, rfl, L2⟩
  clear K2 hop
  rw [show rootV Rt.none (.slice a2 Rt.none.mt.length c2) = .agg #[.int .i64 0, .int .i64 (-1), .int .i64 1, .slice a2 0 c2] from rfl]
  have L3 := ((L2.rootNew (R := Rt.none) 2 rfl).wasNew #[.slice none 0 0, .slice none 0 0, .slice none 0 0, .slice none 0 0, .slice none 0 0, .slice none 0 0, .slice none 0 0] rfl).anyRootNew (.int .i64 0) (.int .i64 0) (.int .i64 0) (.slice none 0 0)
  simp only [World.size_alloc] at L3
  go_upto_block 0 with fail
  obtain ⟨W3, hW3⟩ : ∃ W3, W3 = ((w2.alloc (Obj.cells #[Value.int IntKind.i64 0, Value.int IntKind.i64 (-1), Value.int IntKind.i64 1, Value.slice a2 0 c2] 95)).alloc (Obj.cells #[Value.slice none 0 0, Value.slice none 0 0, Value.slice none 0 0, Value.slice none 0 0, Value.slice none 0 0, Value.slice none 0 0, Value.slice none 0 0] 105)).alloc (Obj.cells #[Value.int IntKind.i64 0, Value.int IntKind.i64 0, Value.int IntKind.i64 0, Value.slice none 0 0] 95) := ⟨_, rfl⟩
  rw [← hW3]
  replace L3 : Apart w w.heap.size (TF5 w p q w2.heap.size (w2.heap.size + 1) (w2.heap.size + 1 + 1) (Dsk.of (List.replicate (9 * 256) 0)) ⟨0, 7, zeros4096, Rt.none, false⟩ Rt.none (fun _ => [])) W3 := by
    have := L3
    rw [hW3]
    exact this
  clear hW3 L2 L1
  generalize w2.heap.size + 1 + 1 = kt at *
  generalize w2.heap.size + 1 = kw at *
  generalize w2.heap.size = kr at *
  have hc0 : FlipsI 0 ⟨0, 7, zeros4096, Rt.none, false⟩ (Dsk.of (List.replicate (9 * 256) 0)) [] (fun _ => []) Rt.none := ⟨hinv, rfl, rfl, Nat.le_refl _, Nat.zero_le _, rfl, fun x hx => by cases hx⟩
  have HC0 := Lib.hid hc0
  clear hinv hc0
  go_cut [11] (fun v11 wx => ∃ (P : Pgr) (D : Dsk) (used : List Int) (was : Nat → List UInt8) (S : Rt) (au : Option Addr) (cu : Nat), v11 = .slice au used.length cu ∧ IntsAt w au used ∧ (∀ x, au = some x → used ≠ [] → x.block < w.heap.size) ∧ used.length ≤ 140737488351232 ∧ FlipsI 60 P D used was S ∧ Apart w w.heap.size (TF5 w p q kr kw kt D P S was) wx)
  case first =>
    go_wp2_with fail
    go_loopw [11, 12, 14] (fun v11 v12 v14 wr => ∃ (i : Nat) (P : Pgr) (D : Dsk) (used : List Int) (was : Nat → List UInt8) (S : Rt) (au : Option Addr) (cu : Nat), i ≤ l.length ∧ i ≤ 60 ∧ v14 = .int .i64 (i : Int) ∧ v11 = .slice au used.length cu ∧ SomeSl v12 ∧ IntsAt w au used ∧ (∀ x, au = some x → used ≠ [] → x.block < w.heap.size) ∧ used.length ≤ 140737488351232 ∧ FlipsI i P D used was S ∧ Apart w w.heap.size (TF5 w p q kr kw kt D P S was) wr) (fun _ _ v14 _ => 60 - (intOf v14).toNat)
    case atStart => exact ⟨0, _, _, [], _, _, none, 0, Nat.zero_le _, Nat.zero_le _, rfl, rfl, ⟨none, 0, 0, rfl⟩, (fun h => absurd rfl h), (fun x hx => by cases hx), (by decide), HC0.out, L3⟩
    case round =>
      clear L3 HC0
      obtain ⟨i, P, D, used, was, S, au, cu, hi, hi60, rfl, rfl, ⟨al0, nl0, cl0, rfl⟩, hu, hub, hul, hI, L⟩ := hrel
      by_cases hlt : (i : Int) < (l.length : Int)
      · by_cases h60 : (i : Int) < 60
        · obtain ⟨bb, off, rfl, ab, cb, al, cl, q0, q1, q2, q3, q4, r1, r2, r3, r4, r5, r6, r7, r8⟩ := ha.here L.bel (k := i) (by omega)
          generalize l[i] = o at *
          have R1 := Lib.hid r1
          have R3 := Lib.hid r3
          have R6 := Lib.hid r6
          have R7 := Lib.hid r7
          have HI := Lib.hid hI
          have HU := Lib.hid hu
          have HUB := Lib.hid hub
          clear r1 r3 r6 r7 hI ha hk hu hub
          go_upto_region 15 with fail
          obtain ⟨W1, hW1⟩ : ∃ W1, W1 = wr.alloc (opWO o ab cb al cl) := ⟨_, rfl⟩
          rw [show wr.alloc (Obj.cells #[.int .i64 o.kind, .int .i64 o.n, .int .i64 o.m, .slice ab o.b.length cb, .slice al o.l.length cl] 102) = W1 from hW1.symm]
          have L1 := L.lay (opWO o ab cb al cl)
          rw [← hW1] at L1
          clear hW1 L q0 q1 q2 q3 q4
          generalize wr.heap.size = k at *
          replace L1 : Apart w w.heap.size (TF5o w p q kr kw kt D P S was k (opWO o ab cb al cl)) W1 := L1
          obtain ⟨y0, y1, y2, y3, y4⟩ := L1.opCells 5 rfl
          have hwf := HI.out.inv.pw
          have hlim : D.l.length + 1 ≤ 1048576 := by have := HI.out.l; omega
          by_cases hk012 : o.kind = 0 ∨ o.kind = 1 ∨ o.kind = 2
          · have hb5 : BytesAt W1 ab o.b := R1.out.below L1.bel R6.out
            have KW := L1.pwrite 1 0 rfl rfl (by decide) hwf hlim ab o.b o.b.length cb rfl hb5
            obtain ⟨j1, j2⟩ := HI.out.write o.b
            obtain ⟨⟨n1, why, P2, D2⟩, ho⟩ : ∃ x, P.write D o.b = x := ⟨_, rfl⟩
            rw [ho] at KW j1 j2
            simp only at j1 j2 KW
            have J1 := Lib.hid j1
            have J2 := Lib.hid j2
            replace KW := Lib.hid KW
            clear j1 j2 ho hb5 hwf
            rcases hk012 with hk | hk | hk
            all_goals
              rw [hk] at y0
              go_wp2_with fail
              refine KW.out.mono ?_
              rintro e w6 ⟨rfl, L6⟩
              replace L6 : Apart w w.heap.size (TF5o w p q kr kw kt D2 P2 S was k (opWO o ab cb al cl)) w6 := L6
              clear KW
              by_cases hc : why = 0
              · subst hc
                obtain ⟨e, rfl, e2, e3, e4⟩ := J1.out rfl
                have HE4 := Lib.hid e4
                have HE3 := Lib.hid e3
                have e2' : ¬ (6 < (e : Int)) := by omega
                have he0 : ¬ ((e : Int) < 0) := by omega
                clear e3 e4 J1 J2
                go_wp2_with fail
                go_loopw [18] (fun v18 wx => ∃ m : Nat, m ≤ used.length ∧ v18 = .int .i64 (m : Int) ∧ w6 = wx) (fun v18 _ => used.length - (intOf v18).toNat)
                case atStart => exact ⟨0, Nat.zero_le _, rfl, rfl⟩
                case round =>
                  obtain ⟨m, hm, rfl, rfl⟩ := hrel
                  by_cases hmu : (m : Int) < (used.length : Int)
                  · have hmu' : m < used.length := by omega
                    obtain ⟨gu, offu, rfl, hcu2⟩ := HU.out (by intro e; rw [e] at hmu'; exact absurd hmu' (Nat.not_lt_zero _))
                    have cm := hcu2 m hmu'
                    have cm' := (L6.bel.cell (p := ⟨gu, offu + m, none⟩) (World.block_lt_of_cell? _ _ cm)).trans cm
                    have hne := HE3.out _ (List.getElem_mem hmu')
                    have hneb : (used[m] == (e : Int)) = false := by simpa using hne
                    clear cm hcu2 hne
                    go_wp2_with fail
                    go_roundw
                    case rel => exact ⟨m + 1, by omega, by go_num, trivial⟩
                    case measure => simp [intOf]; omega
                  · obtain ⟨x0, x1, x2, x3, x4⟩ := L6.opCells 5 rfl
                    have L7 := L6.wasSet 3 rfl e e2 (.slice ab o.b.length cb) o.b ⟨ab, cb, rfl, R1.out, r2⟩
                    obtain ⟨xv, z0, -⟩ := L6.was 3 rfl e e2
                    have z1 := L6.wasFz 3 rfl e
                    have L8 := L7.take 5
                    replace L8 : Apart w w.heap.size (TF5 w p q kr kw kt D2 P2 S (fun m => if m = e then o.b else was m)) (w6.setCell ⟨kw, e, none⟩ (.slice ab o.b.length cb)) := L8
                    have he7 : (e : Int) < 7 := by omega
                    clear L7 L6
                    go_wp2_with fail
                    go_roundw
                    case rel => exact ⟨i + 1, P2, D2, used, _, S, au, cu, by omega, by omega, by go_num, rfl, ⟨_, _, _, rfl⟩, HU.out, HUB.out, hul, HE4.out, L8⟩
                    case measure => simp [intOf]; omega
              · have hcb : (why == 0) = false := by simpa using hc
                obtain ⟨rfl, rfl⟩ := J2.out hc
                have L7 := L6.take 5
                replace L7 : Apart w w.heap.size (TF5 w p q kr kw kt D2 P2 S was) w6 := L7
                clear hc J1 J2 L6
                go_wp2_with fail
                go_roundw
                case rel => exact ⟨i + 1, _, _, used, was, S, au, cu, by omega, by omega, by go_num, rfl, ⟨_, _, _, rfl⟩, HU.out, HUB.out, hul, HI.out.next, L7⟩
                case measure => simp [intOf]; omega
          · by_cases hk45 : o.kind = 4 ∨ o.kind = 5
            · have hb5 : BytesAt W1 ab o.b := R1.out.below L1.bel R6.out
              have hl5 : IntsAt W1 al o.l := R3.out.mod (Mod.of_below L1.bel) (fun x hx hne e => by have := R7.out x hx hne; omega)
              have hroot := hwf.root
              have hgen := HI.out.gen
              obtain ⟨j1, j2⟩ := HI.out.flip (by omega) o.n o.m o.b o.l
              have KR := L1.proot 1 rfl hroot.mt
              have HR := Lib.hid KR
              have HL5 := Lib.hid hl5
              have HB5 := Lib.hid hb5
              have J1 := Lib.hid j1
              have J2 := Lib.hid j2
              have HWF := Lib.hid hwf
              clear KR hl5 hb5 hwf j1 j2 hk012 hroot
              rcases hk45 with hk | hk
              all_goals
                rw [hk] at y0
                go_wp2_with fail
                refine HR.out.mono ?_
                rintro e w6 ⟨vr, rfl, L6⟩
                obtain ⟨avr, cvr, rfl, -, -, -⟩ := (L6.bytes 6 (v := vr) (l := P.root.mt) rfl).shape
                rw [show rootV P.root (.slice avr P.root.mt.length cvr) = .agg #[.int .i64 (P.root.gen : Int), .int .i64 P.root.page, .int .i64 (P.root.next : Int), .slice avr P.root.mt.length cvr] from rfl]
                replace L6 : Apart w w.heap.size (TF5o w p q kr kw kt D P S was k (opWO o ab cb al cl)) w6 := L6.take 6
                have KF := L6.pflip 1 0 rfl rfl (by decide) HWF.out hlim (by omega) o.n o.m ab o.b o.b.length cb rfl (by omega) r2 (R1.out.below L6.bel R6.out) al o.l o.l.length cl rfl (by omega) (R3.out.mod (Mod.of_below L6.bel) (fun x hx hne e => by have := R7.out x hx hne; omega)) R7.out
                have j1 := J1.out
                have j2 := J2.out
                obtain ⟨⟨why, P2, D2⟩, ho⟩ : ∃ x, P.flip D o.n o.m o.b o.l = x := ⟨_, rfl⟩
                rw [ho] at KF j1 j2
                simp only at j1 j2 KF
                have K1 := Lib.hid j1
                have K2 := Lib.hid j2
                replace KF := Lib.hid KF
                obtain ⟨x0, x1, x2, x3, x4⟩ := L6.opCells 5 rfl
                have hfd := run_field95 w6 (P.root.gen : Int) P.root.page (P.root.next : Int) avr P.root.mt.length cvr
                have wg : IntKind.i64.wrap ((P.root.gen : Int) + 1) = (P.root.gen : Int) + 1 := IntWalk.i64_in _ (by omega)
                have WG := Lib.hid wg
                clear j1 j2 ho HR L1 y1 y2 y3 y4 wg
                go_wp2_with fail
                refine KF.out.mono ?_
                rintro e w7 ⟨rfl, L7⟩
                replace L7 : Apart w w.heap.size (TF5o w p q kr kw kt D2 P2 S was k (opWO o ab cb al cl)) w7 := L7
                clear KF L6 x0 x1 x2 x3 x4 hfd
                by_cases hc : why = 0
                · subst hc
                  have hI2 := K1.out rfl
                  have KR2 := L7.proot 1 rfl hI2.inv.pw.root.mt
                  have HI2 := Lib.hid hI2
                  replace KR2 := Lib.hid KR2
                  clear hI2 K1 K2
                  go_wp2_with fail
                  refine KR2.out.mono ?_
                  rintro e w8 ⟨v8, rfl, L8⟩
                  replace L8 : Apart w w.heap.size [DiskT w.heap.size p D2, PT w.heap.size q p P2, RootT w.heap.size kr S, WasT w w.heap.size kw was, AnyRootT w.heap.size kt, BlkT w.heap.size k (opWO o ab cb al cl), BytesT w.heap.size v8 P2.root.mt] w8 := L8
                  obtain ⟨a8, c8, rfl, -, -, -⟩ := (L8.bytes 6 rfl).shape
                  obtain ⟨⟨s0, s1, s2, s3, hs⟩, L9⟩ := L8.rootSet 2 6 rfl rfl (by decide)
                  rw [show rootV P2.root (.slice a8 P2.root.mt.length c8) = .agg #[.int .i64 (P2.root.gen : Int), .int .i64 P2.root.page, .int .i64 (P2.root.next : Int), .slice a8 P2.root.mt.length c8] from rfl]
                  have hcc := fun j => cell_of_row w8 kr j _ 95 (0, 0) hs
                  have d0 := hcc 0
                  have d1 := hcc 1
                  have d2 := hcc 2
                  have d3 := hcc 3
                  simp only [List.getElem?_toArray, List.getElem?_cons_zero, List.getElem?_cons_succ] at d0 d1 d2 d3
                  have g0 := thaw_of (i := 0) hs
                  have g1 := thaw_of (i := 1) hs
                  have g2 := thaw_of (i := 2) hs
                  have g3 := thaw_of (i := 3) hs
                  have z4 := (L9.opCells 5 rfl).2.2.2.2
                  replace L9 := L9.take 5
                  have HL9 := Lib.hid L9
                  clear hcc hs L9 L8 L7 KR2
                  go_wp2_with fail
                  go_roundw
                  case rel => exact ⟨i + 1, P2, D2, o.l, was, P2.root, al, cl, by omega, by omega, by go_num, rfl, ⟨_, _, _, rfl⟩, R3.out, R7.out, r5, HI2.out, HL9.out⟩
                  case measure => simp [intOf]; omega
                · have hcb : (why == 0) = false := by simpa using hc
                  have hI2 := K2.out hc
                  have KD := L7.pdead 1 rfl
                  have HI2 := Lib.hid hI2
                  replace KD := Lib.hid KD
                  obtain ⟨x0, x1, x2, x3, x4⟩ := L7.opCells 5 rfl
                  have wg := WG.out
                  clear hI2 hc K1 K2
                  cases hd2 : P2.dead with
                  | false =>
                    rw [hd2] at KD
                    have L8 := L7.take 5
                    replace L8 : Apart w w.heap.size (TF5 w p q kr kw kt D2 P2 S was) w7 := L8
                    have HD2 := Lib.hid hd2
                    clear hd2 L7
                    go_wp2_with fail
                    refine KD.out.mono ?_
                    rintro e w' ⟨rfl, rfl⟩
                    clear KD
                    go_wp2_with fail
                    go_roundw
                    case rel => exact ⟨i + 1, P2, D2, used, was, S, au, cu, by omega, by omega, by go_num, rfl, ⟨_, _, _, rfl⟩, HU.out, HUB.out, hul, HI2.out, L8⟩
                    case measure => simp [intOf]; omega
                  | true =>
                    rw [hd2] at KD
                    have HD2 := Lib.hid hd2
                    clear hd2
                    cases al0 with
                    | some y =>
                      have L8 := L7.take 5
                      replace L8 : Apart w w.heap.size (TF5 w p q kr kw kt D2 P2 S was) w7 := L8
                      clear L7
                      go_wp2_with fail
                      refine KD.out.mono ?_
                      rintro e w' ⟨rfl, rfl⟩
                      clear KD
                      go_wp2_with fail
                      go_roundw
                      case rel => exact ⟨i + 1, P2, D2, used, was, S, au, cu, by omega, by omega, by go_num, rfl, ⟨_, _, _, rfl⟩, HU.out, HUB.out, hul, HI2.out, L8⟩
                      case measure => simp [intOf]; omega
                    | none =>
                      obtain ⟨⟨s0, s1, s2, s3, hs⟩, L9⟩ := L7.anyRoot 4 rfl (.int .i64 ((P.root.gen : Int) + 1)) (.int .i64 o.n) (.int .i64 o.m) (.slice ab o.b.length cb)
                      have hcc := fun j => cell_of_row w7 kt j _ 95 (0, 0) hs
                      have d0 := hcc 0
                      have d1 := hcc 1
                      have d2 := hcc 2
                      have d3 := hcc 3
                      simp only [List.getElem?_toArray, List.getElem?_cons_zero, List.getElem?_cons_succ] at d0 d1 d2 d3
                      have g0 := thaw_of (i := 0) hs
                      have g1 := thaw_of (i := 1) hs
                      have g2 := thaw_of (i := 2) hs
                      have g3 := thaw_of (i := 3) hs
                      have z4 := (L9.opCells 5 rfl).2.2.2.2
                      replace L9 := L9.take 5
                      have HL9 := Lib.hid L9
                      clear hcc hs L9 L7
                      go_wp2_with fail
                      refine KD.out.mono ?_
                      rintro e w' ⟨rfl, rfl⟩
                      clear KD
                      go_wp2_with fail
                      go_roundw
                      case rel => exact ⟨i + 1, P2, D2, used, was, S, au, cu, by omega, by omega, by go_num, rfl, ⟨_, _, _, rfl⟩, HU.out, HUB.out, hul, HI2.out, HL9.out⟩
                      case measure => simp [intOf]; omega
            · have h0 : ¬ o.kind = 0 := fun e => hk012 (.inl e)
              have h1 : ¬ o.kind = 1 := fun e => hk012 (.inr (.inl e))
              have h2 : ¬ o.kind = 2 := fun e => hk012 (.inr (.inr e))
              have h4 : ¬ o.kind = 4 := fun e => hk45 (.inl e)
              have h5 : ¬ o.kind = 5 := fun e => hk45 (.inr e)
              clear hk012 hk45
              by_cases hk7 : o.kind = 7
              · rw [hk7] at y0
                have KL := L1.fail 0 rfl
                replace KL := Lib.hid KL
                clear h0 h1 h2 h4 h5
                go_wp2_with fail
                refine KL.out.mono ?_
                rintro e w6 ⟨rfl, L6⟩
                have L7 := L6.take 5
                replace L7 : Apart w w.heap.size (TF5 w p q kr kw kt { D with bad := true } P S was) w6 := L7
                clear KL L6
                go_wp2_with fail
                go_roundw
                case rel => exact ⟨i + 1, P, { D with bad := true }, used, was, S, au, cu, by omega, by omega, by go_num, rfl, ⟨_, _, _, rfl⟩, HU.out, HUB.out, hul, HI.out.fail, L7⟩
                case measure => simp [intOf]; omega
              · have L7 := L1.take 5
                replace L7 : Apart w w.heap.size (TF5 w p q kr kw kt D P S was) W1 := L7
                clear L1
                go_wp2_with fail
                go_roundw
                case rel => exact ⟨i + 1, P, D, used, was, S, au, cu, by omega, by omega, by go_num, rfl, ⟨_, _, _, rfl⟩, HU.out, HUB.out, hul, HI.out.next, L7⟩
                case measure => simp [intOf]; omega
        · go_wp2_with fail
          go_meet
          exact ⟨P, D, used, was, S, au, cu, rfl, hu, hub, hul, ⟨hI.inv, hI.pages, hI.frm, by have := hI.gen; omega, by have := hI.l; omega, hI.root, hI.used⟩, L⟩
      · go_wp2_with fail
        go_meet
        exact ⟨P, D, used, was, S, au, cu, rfl, hu, hub, hul, ⟨hI.inv, hI.pages, hI.frm, by have := hI.gen; omega, by have := hI.l; omega, hI.root, hI.used⟩, L⟩
  case rest =>
    clear L3 HC0
    obtain ⟨P, D, used, was, S, au, cu, rfl, hu, hub, hul, hI, L⟩ := hcut
    have hkB : ∀ x, ak = some x → ks ≠ [] → x.block < w.heap.size := fun x hx hne => by
      obtain ⟨b', off', e, hc⟩ := hk hne
      rw [e] at hx
      cases hx
      exact World.block_lt_of_cell? _ _ (hc 0 (List.length_pos_iff.2 hne))
    have KC := L.crash 0 rfl ak ks _ capk rfl (hk.mod (Mod.of_below L.bel) (fun x hx hne e => by have := hkB x hx hne; omega)) hkB (by omega)
    obtain ⟨i1, i2, i3⟩ := hI.crash ks
    have hSm : S.mt.length ≤ 100 := by rw [← hI.root]; exact hI.inv.pw.root.mt
    have HC := Lib.hid KC
    have H1 := Lib.hid i1
    have H3 := Lib.hid i3
    have HU := Lib.hid hu
    have HUB := Lib.hid hub
    generalize D.crash ks = D2 at *
    clear KC i1 i3 hI ha hk hkB hu hub kn
    go_wp2_with fail
    refine HC.out.mono ?_
    rintro e w3 ⟨rfl, L3⟩
    replace L3 : Apart w w.heap.size (TF5 w p q kr kw kt D2 P S was) w3 := L3
    clear HC L
    have KO := L3.popen2 0 rfl 0 9 (by omega) (by decide) (by omega)
    rw [H1.out] at KO
    have hPo : (Pgr.opened 0 9 D2).frm = 0 ∧ (Pgr.opened 0 9 D2).pages = 7 := ⟨rfl, rfl⟩
    generalize Pgr.opened 0 9 D2 = P2 at *
    replace KO := Lib.hid KO
    have HPO := Lib.hid hPo
    clear hPo
    go_wp2_with fail
    refine KO.out.mono ?_
    rintro e w4 ⟨q2, a4, c4, rfl, L4⟩
    replace L4 : Apart w w.heap.size [DiskT w.heap.size p D2, PT w.heap.size q p P, RootT w.heap.size kr S, WasT w w.heap.size kw was, AnyRootT w.heap.size kt, PT w.heap.size q2 p P2, BytesT w.heap.size (.slice a4 S.mt.length c4) S.mt] w4 := L4
    rw [show rootV S (.slice a4 S.mt.length c4) = .agg #[.int .i64 (S.gen : Int), .int .i64 S.page, .int .i64 (S.next : Int), .slice a4 S.mt.length c4] from rfl]
    have L5 := L4.rootNew (R := S) 6 rfl
    clear KO L3
    go_upto_region 46 with fail
    obtain ⟨W5, hW5⟩ : ∃ W5, W5 = w4.alloc (.cells #[.int .i64 (S.gen : Int), .int .i64 S.page, .int .i64 (S.next : Int), .slice a4 S.mt.length c4] 95) := ⟨_, rfl⟩
    rw [← hW5]
    rw [← hW5] at L5
    clear hW5 L4
    generalize w4.heap.size = k2 at *
    replace L5 : Apart w w.heap.size [DiskT w.heap.size p D2, PT w.heap.size q p P, RootT w.heap.size kr S, WasT w w.heap.size kw was, AnyRootT w.heap.size kt, PT w.heap.size q2 p P2, RootT w.heap.size k2 S] W5 := L5
    go_cut [165] (fun v165 wx => v165 = .bool false ∧ Mod (fun _ => False) W5 wx)
    case first =>
      obtain ⟨ax, cx, kx, hbx⟩ := L5.root 2 rfl
      obtain ⟨ay, cy, ky, hby⟩ := L5.root 6 rfl
      have CX : ∀ w', Mod (fun _ => False) W5 w' → w'.cell? ⟨kr, 0, none⟩ = some (.int .i64 (S.gen : Int)) ∧ w'.cell? ⟨kr, 1, none⟩ = some (.int .i64 S.page) ∧ w'.cell? ⟨kr, 2, none⟩ = some (.int .i64 (S.next : Int)) ∧ w'.cell? ⟨kr, 3, none⟩ = some (.slice ax S.mt.length cx) ∧
          w'.cell? ⟨k2, 0, none⟩ = some (.int .i64 (S.gen : Int)) ∧ w'.cell? ⟨k2, 1, none⟩ = some (.int .i64 S.page) ∧ w'.cell? ⟨k2, 2, none⟩ = some (.int .i64 (S.next : Int)) ∧ w'.cell? ⟨k2, 3, none⟩ = some (.slice ay S.mt.length cy) := fun w' hm => by
        have c1 := fun j => cell_of_row w' kr j _ 95 (0, 0) (hm.obj kx id)
        have c2 := fun j => cell_of_row w' k2 j _ 95 (0, 0) (hm.obj ky id)
        exact ⟨c1 0, c1 1, c1 2, c1 3, c2 0, c2 1, c2 2, c2 3⟩
      have KA : ∀ w' a c, Calls Try.prog 74 #[.agg #[.int .i64 (S.gen : Int), .int .i64 S.page, .int .i64 (S.next : Int), .slice a S.mt.length c]] w' fun e w'' => e = .returned (.agg #[.int .i64 (S.gen : Int), .int .i64 S.page, .int .i64 (S.next : Int), .slice a S.mt.length c]) ∧ Mod (fun _ => False) w' w'' := fun w' a c => as_any S a _ c
      have KS : ∀ w', Mod (fun _ => False) W5 w' → Calls Try.prog 73 #[.agg #[.int .i64 (S.gen : Int), .int .i64 S.page, .int .i64 (S.next : Int), .slice ay S.mt.length cy], .agg #[.int .i64 (S.gen : Int), .int .i64 S.page, .int .i64 (S.next : Int), .slice ax S.mt.length cx]] w' fun e w'' => e = .returned (.bool true) ∧ Mod (fun _ => False) w' w'' := fun w' hm => by
        have := same_any (w := w') S S ay S.mt.length cy ax S.mt.length cx rfl rfl (hby.mod hm (fun _ _ _ => id)) (hbx.mod hm (fun _ _ _ => id))
        rw [Rt.same_self] at this
        exact this
      have KAh := Lib.hid KA
      have KSh := Lib.hid KS
      have mdr : Mod (fun _ => False) W5 W5.drew := Mod.drew _ _
      clear KA KS hbx hby kx ky
      refine wp_region_held_drew (S := fun w' => Mod (fun _ => False) W5 w') (by kernel_rfl) (mdr) (fun hHeld => ?_)
      refine wpAnyH_take (i := 0) (oi := { dst := some 160, op := Op.load 95 (Operand.tmp 22), type := 95, pos := "law.go:193", after := #[], guard := none }) (v := ?_) rfl (by kernel_rfl) (by kernel_rfl) (by kernel_rfl) (fun _ _ _ h => h) (Or.inl ⟨by rfl, ?_⟩) (by assumption) ?_
      rotate_left
      · (intro w hSw; obtain ⟨-, -, -, -, d0, d1, d2, d3⟩ := CX w hSw; (try dsimp only at hSw); go_simp; try with_reducible rfl)
      simp only [Act.put, List.setIfInBounds_toArray, List.set_cons_zero, List.set_cons_succ]
      refine wpAnyH_take (i := 2) (oi := { dst := some 162, op := Op.load 95 (Operand.tmp 8), type := 95, pos := "law.go:193", after := #[], guard := none }) (v := ?_) rfl (by kernel_rfl) (by kernel_rfl) (by kernel_rfl) (fun _ _ _ h => h) (Or.inl ⟨by rfl, ?_⟩) (by assumption) ?_
      rotate_left
      · (intro w hSw; obtain ⟨d0, d1, d2, d3, -⟩ := CX w hSw; (try dsimp only at hSw); go_simp; try with_reducible rfl)
      simp only [Act.put, List.setIfInBounds_toArray, List.set_cons_zero, List.set_cons_succ]
      refine wpAnyH_ready (rs := [1]) (by kernel_rfl) (by simp) ?_
      refine AllReadyH.cons (o := { dst := some 161, op := Op.call { callee := Callee.value (Operand.func 74), args := #[Operand.tmp 160], argTypes := #[95] }, type := 108, pos := "law.go:193", after := #[{ on := 0, ground := Ground.data }], guard := none }) rfl (fun K hK => ?_) AllReadyH.nil
      go_simp
      refine (KAh.out _ _ _).mono ?_
      rintro r wA ⟨rfl, mA⟩
      have MA : Mod (fun _ => False) W5 wA := Mod.trans' mdr mA
      try simp only []
      refine hK.out _ _ (MA) (fun _ => ?_)
      clear hK K
      try simp only [Act.put, List.setIfInBounds_toArray, List.set_cons_zero, List.set_cons_succ]
      refine wpAnyH_ready (rs := [3]) (by kernel_rfl) (by simp) ?_
      refine AllReadyH.cons (o := { dst := some 163, op := Op.call { callee := Callee.value (Operand.func 74), args := #[Operand.tmp 162], argTypes := #[95] }, type := 108, pos := "law.go:193", after := #[{ on := 2, ground := Ground.data }, { on := 1, ground := Ground.chain }], guard := none }) rfl (fun K hK => ?_) AllReadyH.nil
      go_simp
      refine (KAh.out _ _ _).mono ?_
      rintro r wB ⟨rfl, mB⟩
      have MB : Mod (fun _ => False) W5 wB := Mod.trans' MA mB
      try simp only []
      refine hK.out _ _ (MB) (fun _ => ?_)
      clear hK K
      try simp only [Act.put, List.setIfInBounds_toArray, List.set_cons_zero, List.set_cons_succ]
      refine wpAnyH_ready (rs := [4]) (by kernel_rfl) (by simp) ?_
      refine AllReadyH.cons (o := { dst := some 164, op := Op.call { callee := Callee.value (Operand.func 73), args := #[Operand.tmp 161, Operand.tmp 163], argTypes := #[108, 108] }, type := 4, pos := "law.go:193", after := #[{ on := 1, ground := Ground.data }, { on := 3, ground := Ground.data }, { on := 3, ground := Ground.chain }], guard := none }) rfl (fun K hK => ?_) AllReadyH.nil
      go_simp
      refine (KSh.out _ MB).mono ?_
      rintro r wS ⟨rfl, mS⟩
      have MS : Mod (fun _ => False) W5 wS := Mod.trans' MB mS
      try simp only []
      refine hK.out _ _ (MS) (fun _ => ?_)
      clear hK K
      try simp only [Act.put, List.setIfInBounds_toArray, List.set_cons_zero, List.set_cons_succ]
      refine wpAnyH_take (i := 5) (oi := { dst := some 165, op := Op.unOp UnOp.not 4 (Operand.tmp 164), type := 4, pos := "law.go:193", after := #[{ on := 4, ground := Ground.data }], guard := none }) (v := ?_) rfl (by kernel_rfl) (by kernel_rfl) (by kernel_rfl) (fun _ _ _ h => h) (Or.inl ⟨by rfl, ?_⟩) (by assumption) ?_
      rotate_left
      · (intro w hSw; (try dsimp only at hSw); go_simp; try with_reducible rfl)
      simp only [Act.put, List.setIfInBounds_toArray, List.set_cons_zero, List.set_cons_succ]
      refine wpAnyH_done (by kernel_rfl) ?_ _
      go_wp2_with fail
      go_meet
      exact ⟨rfl, MS⟩

    case rest =>
      obtain ⟨rfl, m6⟩ := hcut
      have L6 := L5.still m6
      clear L5 m6
      generalize wc = w6 at *
      have HSm := Lib.hid hSm
      clear hSm
      go_wp2_with fail
      go_loopw [25] (fun v25 wr => ∃ k : Nat, k ≤ used.length ∧ v25 = .int .i64 (k : Int) ∧ Apart w w.heap.size [DiskT w.heap.size p D2, PT w.heap.size q p P, RootT w.heap.size kr S, WasT w w.heap.size kw was, AnyRootT w.heap.size kt, PT w.heap.size q2 p P2, RootT w.heap.size k2 S] wr) (fun v25 _ => used.length - (intOf v25).toNat)
      case atStart => exact ⟨0, Nat.zero_le _, rfl, L6⟩
      case round =>
        clear L6
        obtain ⟨k, hku, rfl, L⟩ := hrel
        by_cases hlt : (k : Int) < (used.length : Int)
        · have hlt' : k < used.length := by omega
          obtain ⟨n, n1, n2, n3, n4⟩ := H3.out k hlt'
          obtain ⟨gu, offu, rfl, hcu2⟩ := HU.out (by intro e; rw [e] at hlt'; exact absurd hlt' (Nat.not_lt_zero _))
          have hun : used[k] = (n : Int) := by rw [List.getElem?_eq_getElem hlt'] at n1; exact Option.some.inj n1
          have cu0 := hcu2 k hlt'
          rw [hun] at cu0
          have cu2 := (L.bel.cell (p := ⟨gu, offu + k, none⟩) (World.block_lt_of_cell? _ _ cu0)).trans cu0
          have KR := L.preadT 5 0 rfl rfl (by rw [HPO.out.1, HPO.out.2]; exact i2) (n : Int)
          rw [n3] at KR
          replace KR := Lib.hid KR
          have hpl := pad_length _ n4
          have hpt : (pad (was n)).take (was n).length = was n := by unfold pad; exact List.take_left
          have HPT := Lib.hid hpt
          have HPL := Lib.hid hpl
          have HCU := Lib.hid cu0
          have n4' : ((was n).length : Int) ≤ 252 := by omega
          clear n1 n3 hun hcu2 cu0 hpt hpl
          go_wp2_with fail
          refine KR.out.mono ?_
          rintro e w8 ⟨v, rfl, L8⟩
          clear KR L
          obtain ⟨av, cv, rfl, hbv, hcv⟩ := L8.view 7 rfl
          rw [HPL.out] at hcv
          rw [HPL.out]
          obtain ⟨xw, cw, hxw⟩ := L8.was 3 rfl n n2
          have hxw' := SlB.mod hxw (Mod.of_below L8.bel) (fun a' n' c' e hne hB => by
            obtain ⟨a2', c2', e2, hb2, -⟩ := hxw
            rw [e] at e2
            cases e2
            have := hb2.lt hne
            omega)
          obtain ⟨aw, cpw, rfl, hbw, -⟩ := hxw'
          obtain ⟨gv, ov, rfl, -⟩ := hbv (by intro e; have := HPL.out; rw [e] at this; cases this)
          have hsub := hbv.sub 0 (was n).length
          rw [List.drop_zero, HPT.out, Nat.add_zero] at hsub
          have cu8 := (L8.bel.cell (p := ⟨gu, offu + k, none⟩) (World.block_lt_of_cell? _ _ HCU.out)).trans HCU.out
          have L9 := (L8.still (Mod.drew _ w8)).take 7
          replace L9 : Apart w w.heap.size [DiskT w.heap.size p D2, PT w.heap.size q p P, RootT w.heap.size kr S, WasT w w.heap.size kw was, AnyRootT w.heap.size kt, PT w.heap.size q2 p P2, RootT w.heap.size k2 S] w8.drew := L9
          generalize was n = x at *
          have C1 : ∀ w', Mod (fun _ => False) w8 w' → w'.cell? ⟨gu, offu + k, none⟩ = some (.int .i64 (n : Int)) := fun w' hm => hm.cell' cu8 id
          have C2 : ∀ w', Mod (fun _ => False) w8 w' → w'.cell? ⟨kw, n, none⟩ = some (.slice aw x.length cpw) := fun w' hm => hm.cell' cw id
          have S1 : ∀ w', Mod (fun _ => False) w8 w' → (convert 22 9 (.slice (some ⟨gv, ov, none⟩) x.length cv)).run Try.prog w' = .ok (.string ⟨x.toArray⟩) w' := fun w' hm => run_str (hsub.mod hm (fun _ _ _ => id)) _ cv rfl
          have S2 : ∀ w', Mod (fun _ => False) w8 w' → (convert 22 9 (.slice aw x.length cpw)).run Try.prog w' = .ok (.string ⟨x.toArray⟩) w' := fun w' hm => run_str (hbw.mod hm (fun _ _ _ => id)) _ cpw rfl
          have hn7 : (n : Int) < 7 := by omega
          have hn0 : (0 : Int) ≤ (n : Int) := by omega
          have hcv' : (252 : Int) ≤ (cv : Int) := by omega
          have hxc : (x.length : Int) ≤ (cv : Int) := by omega
          have hx0 : (0 : Int) ≤ (x.length : Int) := by omega
          clear hsub hbv hbw hxw cw cu8 L8 hcv n4
          go_upto_region 54 with fail
          refine wp_region_held_drew (S := fun w' => Mod (fun _ => False) w8 w') (by kernel_rfl) (Mod.drew _ _) (fun hHeld => ?_)
          refine wpAnyH_take (i := 0) (oi := { dst := some 194, op := Op.move (Operand.tmp 27), type := 32, pos := "law.go:201", after := #[], guard := none }) (v := ?_) rfl (by kernel_rfl) (by kernel_rfl) (by kernel_rfl) (fun _ _ _ h => h) (Or.inl ⟨by rfl, ?_⟩) (by assumption) ?_
          rotate_left
          · (intro w hSw; (try dsimp only at hSw); go_simp; try with_reducible rfl)
          simp only [Act.put, List.setIfInBounds_toArray, List.set_cons_zero, List.set_cons_succ]
          refine wpAnyH_take (i := 1) (oi := { dst := some 195, op := Op.binOp BinOp.neq 32 (Operand.tmp 194) (Operand.const (Value.int IntKind.i64 0)) 32, type := 4, pos := "law.go:201", after := #[{ on := 0, ground := Ground.data }], guard := none }) (v := ?_) rfl (by kernel_rfl) (by kernel_rfl) (by kernel_rfl) (fun _ _ _ h => h) (Or.inl ⟨by rfl, ?_⟩) (by assumption) ?_
          rotate_left
          · (intro w hSw; (try dsimp only at hSw); go_simp; try with_reducible rfl)
          simp only [Act.put, List.setIfInBounds_toArray, List.set_cons_zero, List.set_cons_succ]
          refine wpAnyH_take (i := 2) (oi := { dst := some 196, op := Op.move (Operand.tmp 195), type := 4, pos := "law.go:201", after := #[{ on := 1, ground := Ground.data }], guard := none }) (v := ?_) rfl (by kernel_rfl) (by kernel_rfl) (by kernel_rfl) (fun _ _ _ h => h) (Or.inl ⟨by rfl, ?_⟩) (by assumption) ?_
          rotate_left
          · (intro w hSw; (try dsimp only at hSw); go_simp; try with_reducible rfl)
          simp only [Act.put, List.setIfInBounds_toArray, List.set_cons_zero, List.set_cons_succ]
          refine wpAnyH_take (i := 3) (oi := { dst := some 197, op := Op.move (Operand.tmp 26), type := 22, pos := "law.go:201", after := #[{ on := 2, ground := Ground.guard }], guard := some (2, false) }) (v := ?_) rfl (by kernel_rfl) (by kernel_rfl) (by kernel_rfl) (fun _ _ _ h => h) (Or.inl ⟨by rfl, ?_⟩) (by assumption) ?_
          rotate_left
          · (intro w hSw; (try dsimp only at hSw); go_simp; try with_reducible rfl)
          simp only [Act.put, List.setIfInBounds_toArray, List.set_cons_zero, List.set_cons_succ]
          refine wpAnyH_take (i := 4) (oi := { dst := some 198, op := Op.call { callee := Callee.builtin Builtin.len, args := #[Operand.tmp 197], argTypes := #[22] }, type := 3, pos := "law.go:201", after := #[{ on := 3, ground := Ground.data }, { on := 2, ground := Ground.guard }], guard := some (2, false) }) (v := ?_) rfl (by kernel_rfl) (by kernel_rfl) (by kernel_rfl) (fun _ _ _ h => h) (Or.inl ⟨by rfl, ?_⟩) (by assumption) ?_
          rotate_left
          · (intro w hSw; (try dsimp only at hSw); go_simp; try with_reducible rfl)
          simp only [Act.put, List.setIfInBounds_toArray, List.set_cons_zero, List.set_cons_succ]
          refine wpAnyH_take (i := 5) (oi := { dst := some 199, op := Op.binOp BinOp.neq 3 (Operand.tmp 198) (Operand.const (Value.int IntKind.i64 252)) 3, type := 4, pos := "law.go:201", after := #[{ on := 4, ground := Ground.data }, { on := 2, ground := Ground.guard }], guard := some (2, false) }) (v := ?_) rfl (by kernel_rfl) (by kernel_rfl) (by kernel_rfl) (fun _ _ _ h => h) (Or.inl ⟨by rfl, ?_⟩) (by assumption) ?_
          rotate_left
          · (intro w hSw; (try dsimp only at hSw); go_simp; try with_reducible rfl)
          simp only [Act.put, List.setIfInBounds_toArray, List.set_cons_zero, List.set_cons_succ]
          refine wpAnyH_take (i := 6) (oi := { dst := some 200, op := Op.pick (Operand.tmp 196) (Operand.const (Value.bool true)) (Operand.tmp 199), type := 4, pos := "law.go:201", after := #[{ on := 2, ground := Ground.data }, { on := 5, ground := Ground.data }], guard := none }) (v := ?_) rfl (by kernel_rfl) (by kernel_rfl) (by kernel_rfl) (fun _ _ _ h => h) (Or.inl ⟨by rfl, ?_⟩) (by assumption) ?_
          rotate_left
          · (intro w hSw; (try dsimp only at hSw); go_simp; try with_reducible rfl)
          simp only [Act.put, List.setIfInBounds_toArray, List.set_cons_zero, List.set_cons_succ]
          refine wpAnyH_take (i := 7) (oi := { dst := some 201, op := Op.move (Operand.tmp 200), type := 4, pos := "law.go:201", after := #[{ on := 6, ground := Ground.data }, { on := 2, ground := Ground.chain }], guard := none }) (v := ?_) rfl (by kernel_rfl) (by kernel_rfl) (by kernel_rfl) (fun _ _ _ h => h) (Or.inl ⟨by rfl, ?_⟩) (by assumption) ?_
          rotate_left
          · (intro w hSw; (try dsimp only at hSw); go_simp; try with_reducible rfl)
          simp only [Act.put, List.setIfInBounds_toArray, List.set_cons_zero, List.set_cons_succ]
          refine wpAnyH_take (i := 8) (oi := { dst := some 202, op := Op.move (Operand.tmp 26), type := 22, pos := "law.go:201", after := #[{ on := 7, ground := Ground.guard }], guard := some (7, false) }) (v := ?_) rfl (by kernel_rfl) (by kernel_rfl) (by kernel_rfl) (fun _ _ _ h => h) (Or.inl ⟨by rfl, ?_⟩) (by assumption) ?_
          rotate_left
          · (intro w hSw; (try dsimp only at hSw); go_simp; try with_reducible rfl)
          simp only [Act.put, List.setIfInBounds_toArray, List.set_cons_zero, List.set_cons_succ]
          refine wpAnyH_take (i := 9) (oi := { dst := some 203, op := Op.move (Operand.tmp 24), type := 39, pos := "law.go:201", after := #[{ on := 7, ground := Ground.guard }], guard := some (7, false) }) (v := ?_) rfl (by kernel_rfl) (by kernel_rfl) (by kernel_rfl) (fun _ _ _ h => h) (Or.inl ⟨by rfl, ?_⟩) (by assumption) ?_
          rotate_left
          · (intro w hSw; (try dsimp only at hSw); go_simp; try with_reducible rfl)
          simp only [Act.put, List.setIfInBounds_toArray, List.set_cons_zero, List.set_cons_succ]
          refine wpAnyH_take (i := 10) (oi := { dst := some 204, op := Op.move (Operand.tmp 25), type := 3, pos := "law.go:201", after := #[{ on := 7, ground := Ground.guard }], guard := some (7, false) }) (v := ?_) rfl (by kernel_rfl) (by kernel_rfl) (by kernel_rfl) (fun _ _ _ h => h) (Or.inl ⟨by rfl, ?_⟩) (by assumption) ?_
          rotate_left
          · (intro w hSw; (try dsimp only at hSw); go_simp; try with_reducible rfl)
          simp only [Act.put, List.setIfInBounds_toArray, List.set_cons_zero, List.set_cons_succ]
          refine wpAnyH_take (i := 11) (oi := { dst := some 205, op := Op.indexAddr 39 (Operand.tmp 203) (Operand.tmp 204), type := 0, pos := "law.go:201", after := #[{ on := 9, ground := Ground.data }, { on := 10, ground := Ground.data }, { on := 7, ground := Ground.guard }], guard := some (7, false) }) (v := ?_) rfl (by kernel_rfl) (by kernel_rfl) (by kernel_rfl) (fun _ _ _ h => h) (Or.inl ⟨by rfl, ?_⟩) (by assumption) ?_
          rotate_left
          · (intro w hSw; (try dsimp only at hSw); go_simp; try with_reducible rfl)
          simp only [Act.put, List.setIfInBounds_toArray, List.set_cons_zero, List.set_cons_succ]
          refine wpAnyH_take (i := 12) (oi := { dst := some 206, op := Op.load 3 (Operand.tmp 205), type := 3, pos := "law.go:201", after := #[{ on := 11, ground := Ground.data }, { on := 7, ground := Ground.guard }], guard := some (7, false) }) (v := ?_) rfl (by kernel_rfl) (by kernel_rfl) (by kernel_rfl) (fun _ _ _ h => h) (Or.inl ⟨by rfl, ?_⟩) (by assumption) ?_
          rotate_left
          · (intro w hSw; (try dsimp only at hSw); go_simp; try with_reducible rfl)
          simp only [Act.put, List.setIfInBounds_toArray, List.set_cons_zero, List.set_cons_succ]
          refine wpAnyH_take (i := 13) (oi := { dst := some 207, op := Op.indexAddr 105 (Operand.tmp 10) (Operand.tmp 206), type := 0, pos := "law.go:201", after := #[{ on := 12, ground := Ground.data }, { on := 7, ground := Ground.guard }], guard := some (7, false) }) (v := ?_) rfl (by kernel_rfl) (by kernel_rfl) (by kernel_rfl) (fun _ _ _ h => h) (Or.inl ⟨by rfl, ?_⟩) (by assumption) ?_
          rotate_left
          · (intro w hSw; (try dsimp only at hSw); go_simp; try with_reducible rfl)
          simp only [Act.put, List.setIfInBounds_toArray, List.set_cons_zero, List.set_cons_succ]
          refine wpAnyH_take (i := 14) (oi := { dst := some 208, op := Op.load 22 (Operand.tmp 207), type := 22, pos := "law.go:201", after := #[{ on := 13, ground := Ground.data }, { on := 7, ground := Ground.guard }], guard := some (7, false) }) (v := ?_) rfl (by kernel_rfl) (by kernel_rfl) (by kernel_rfl) (fun _ _ _ h => h) (Or.inl ⟨by rfl, ?_⟩) (by assumption) ?_
          rotate_left
          · (intro w hSw; (try dsimp only at hSw); go_simp; try with_reducible rfl)
          simp only [Act.put, List.setIfInBounds_toArray, List.set_cons_zero, List.set_cons_succ]
          refine wpAnyH_take (i := 15) (oi := { dst := some 209, op := Op.call { callee := Callee.builtin Builtin.len, args := #[Operand.tmp 208], argTypes := #[22] }, type := 3, pos := "law.go:201", after := #[{ on := 14, ground := Ground.data }, { on := 7, ground := Ground.guard }], guard := some (7, false) }) (v := ?_) rfl (by kernel_rfl) (by kernel_rfl) (by kernel_rfl) (fun _ _ _ h => h) (Or.inl ⟨by rfl, ?_⟩) (by assumption) ?_
          rotate_left
          · (intro w hSw; (try dsimp only at hSw); go_simp; try with_reducible rfl)
          simp only [Act.put, List.setIfInBounds_toArray, List.set_cons_zero, List.set_cons_succ]
          refine wpAnyH_take (i := 16) (oi := { dst := some 210, op := Op.slice 22 (Operand.tmp 202) none (some (Operand.tmp 209)) none, type := 22, pos := "law.go:201", after := #[{ on := 8, ground := Ground.data }, { on := 15, ground := Ground.data }, { on := 7, ground := Ground.guard }], guard := some (7, false) }) (v := ?_) rfl (by kernel_rfl) (by kernel_rfl) (by kernel_rfl) (fun _ _ _ h => h) (Or.inl ⟨by rfl, ?_⟩) (by assumption) ?_
          rotate_left
          · (intro w hSw; (try dsimp only at hSw); go_simp; try with_reducible rfl)
          simp only [Act.put, List.setIfInBounds_toArray, List.set_cons_zero, List.set_cons_succ]
          refine wpAnyH_take (i := 17) (oi := { dst := some 211, op := Op.convert 22 9 (Operand.tmp 210), type := 9, pos := "law.go:201", after := #[{ on := 16, ground := Ground.data }, { on := 7, ground := Ground.guard }], guard := some (7, false) }) (v := ?_) rfl (by kernel_rfl) (by kernel_rfl) (by kernel_rfl) (fun _ _ _ h => h) (Or.inl ⟨by rfl, ?_⟩) (by assumption) ?_
          rotate_left
          · (intro w hSw; (try dsimp only at hSw); go_simp; try with_reducible rfl)
          simp only [Act.put, List.setIfInBounds_toArray, List.set_cons_zero, List.set_cons_succ]
          refine wpAnyH_take (i := 18) (oi := { dst := some 212, op := Op.move (Operand.tmp 24), type := 39, pos := "law.go:201", after := #[{ on := 7, ground := Ground.guard }], guard := some (7, false) }) (v := ?_) rfl (by kernel_rfl) (by kernel_rfl) (by kernel_rfl) (fun _ _ _ h => h) (Or.inl ⟨by rfl, ?_⟩) (by assumption) ?_
          rotate_left
          · (intro w hSw; (try dsimp only at hSw); go_simp; try with_reducible rfl)
          simp only [Act.put, List.setIfInBounds_toArray, List.set_cons_zero, List.set_cons_succ]
          refine wpAnyH_take (i := 19) (oi := { dst := some 213, op := Op.move (Operand.tmp 25), type := 3, pos := "law.go:201", after := #[{ on := 7, ground := Ground.guard }], guard := some (7, false) }) (v := ?_) rfl (by kernel_rfl) (by kernel_rfl) (by kernel_rfl) (fun _ _ _ h => h) (Or.inl ⟨by rfl, ?_⟩) (by assumption) ?_
          rotate_left
          · (intro w hSw; (try dsimp only at hSw); go_simp; try with_reducible rfl)
          simp only [Act.put, List.setIfInBounds_toArray, List.set_cons_zero, List.set_cons_succ]
          refine wpAnyH_take (i := 20) (oi := { dst := some 214, op := Op.indexAddr 39 (Operand.tmp 212) (Operand.tmp 213), type := 0, pos := "law.go:201", after := #[{ on := 18, ground := Ground.data }, { on := 19, ground := Ground.data }, { on := 7, ground := Ground.guard }], guard := some (7, false) }) (v := ?_) rfl (by kernel_rfl) (by kernel_rfl) (by kernel_rfl) (fun _ _ _ h => h) (Or.inl ⟨by rfl, ?_⟩) (by assumption) ?_
          rotate_left
          · (intro w hSw; (try dsimp only at hSw); go_simp; try with_reducible rfl)
          simp only [Act.put, List.setIfInBounds_toArray, List.set_cons_zero, List.set_cons_succ]
          refine wpAnyH_take (i := 21) (oi := { dst := some 215, op := Op.load 3 (Operand.tmp 214), type := 3, pos := "law.go:201", after := #[{ on := 20, ground := Ground.data }, { on := 7, ground := Ground.guard }], guard := some (7, false) }) (v := ?_) rfl (by kernel_rfl) (by kernel_rfl) (by kernel_rfl) (fun _ _ _ h => h) (Or.inl ⟨by rfl, ?_⟩) (by assumption) ?_
          rotate_left
          · (intro w hSw; (try dsimp only at hSw); go_simp; try with_reducible rfl)
          simp only [Act.put, List.setIfInBounds_toArray, List.set_cons_zero, List.set_cons_succ]
          refine wpAnyH_take (i := 22) (oi := { dst := some 216, op := Op.indexAddr 105 (Operand.tmp 10) (Operand.tmp 215), type := 0, pos := "law.go:201", after := #[{ on := 21, ground := Ground.data }, { on := 7, ground := Ground.guard }], guard := some (7, false) }) (v := ?_) rfl (by kernel_rfl) (by kernel_rfl) (by kernel_rfl) (fun _ _ _ h => h) (Or.inl ⟨by rfl, ?_⟩) (by assumption) ?_
          rotate_left
          · (intro w hSw; (try dsimp only at hSw); go_simp; try with_reducible rfl)
          simp only [Act.put, List.setIfInBounds_toArray, List.set_cons_zero, List.set_cons_succ]
          refine wpAnyH_take (i := 23) (oi := { dst := some 217, op := Op.load 22 (Operand.tmp 216), type := 22, pos := "law.go:201", after := #[{ on := 22, ground := Ground.data }, { on := 7, ground := Ground.guard }], guard := some (7, false) }) (v := ?_) rfl (by kernel_rfl) (by kernel_rfl) (by kernel_rfl) (fun _ _ _ h => h) (Or.inl ⟨by rfl, ?_⟩) (by assumption) ?_
          rotate_left
          · (intro w hSw; (try dsimp only at hSw); go_simp; try with_reducible rfl)
          simp only [Act.put, List.setIfInBounds_toArray, List.set_cons_zero, List.set_cons_succ]
          refine wpAnyH_take (i := 24) (oi := { dst := some 218, op := Op.convert 22 9 (Operand.tmp 217), type := 9, pos := "law.go:201", after := #[{ on := 23, ground := Ground.data }, { on := 7, ground := Ground.guard }], guard := some (7, false) }) (v := ?_) rfl (by kernel_rfl) (by kernel_rfl) (by kernel_rfl) (fun _ _ _ h => h) (Or.inl ⟨by rfl, ?_⟩) (by assumption) ?_
          rotate_left
          · (intro w hSw; (try dsimp only at hSw); go_simp; try with_reducible rfl)
          simp only [Act.put, List.setIfInBounds_toArray, List.set_cons_zero, List.set_cons_succ]
          refine wpAnyH_take (i := 25) (oi := { dst := some 219, op := Op.binOp BinOp.neq 9 (Operand.tmp 211) (Operand.tmp 218) 9, type := 4, pos := "law.go:201", after := #[{ on := 17, ground := Ground.data }, { on := 24, ground := Ground.data }, { on := 7, ground := Ground.guard }], guard := some (7, false) }) (v := ?_) rfl (by kernel_rfl) (by kernel_rfl) (by kernel_rfl) (fun _ _ _ h => h) (Or.inl ⟨by rfl, ?_⟩) (by assumption) ?_
          rotate_left
          · (intro w hSw; (try dsimp only at hSw); go_simp; try with_reducible rfl)
          simp only [Act.put, List.setIfInBounds_toArray, List.set_cons_zero, List.set_cons_succ]
          refine wpAnyH_take (i := 26) (oi := { dst := some 220, op := Op.pick (Operand.tmp 201) (Operand.const (Value.bool true)) (Operand.tmp 219), type := 4, pos := "law.go:201", after := #[{ on := 7, ground := Ground.data }, { on := 25, ground := Ground.data }], guard := none }) (v := ?_) rfl (by kernel_rfl) (by kernel_rfl) (by kernel_rfl) (fun _ _ _ h => h) (Or.inl ⟨by rfl, ?_⟩) (by assumption) ?_
          rotate_left
          · (intro w hSw; (try dsimp only at hSw); go_simp; try with_reducible rfl)
          simp only [Act.put, List.setIfInBounds_toArray, List.set_cons_zero, List.set_cons_succ]
          refine wpAnyH_done (by kernel_rfl) ?_ _
          go_wp2_with fail
          go_roundw
          case rel => exact ⟨k + 1, by omega, by go_num, L9⟩
          case measure => simp [intOf]; omega

        · go_wp2_with fail
          refine L.known5.mono ?_
          rintro e w9 ⟨rfl, L9⟩
          have hb := L9.bel
          go_wp2
          go_ret
          exact ⟨rfl, hb⟩

theorem flips_all (W : World) {v0 : Value} {l0 : List OpW} (o0 : RdO5 W v0 l0) {v1 : Value} {l1 : List Int} (o1 : RdL W v1 l1) : Calls Try.prog 21 #[v0, v1] W fun e W' => e = .returned (.bool true) ∧ Below W.heap.size W W' := by
  obtain ⟨a, cap, rfl, h, -⟩ := o0
  obtain ⟨ak, capk, rfl, hk, hkl⟩ := o1
  exact flips_walk a l0 cap ak l1 capk W h hk hkl
end Go.Proofs.Ytdinnkacilgmmaa
