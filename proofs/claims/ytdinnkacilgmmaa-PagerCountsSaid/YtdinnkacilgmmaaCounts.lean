/- PagerCounts. -/
import Derived.Test.YtdinnkacilgmmaaPag16
namespace Go.Proofs.Ytdinnkacilgmmaa
open Go.RowKit

/-- a pager that is counted -/
structure CountI (N i : Nat) (P : Pgr) (D : Dsk) : Prop where
  inv : ∃ was, PInv P D was
  pages : P.pages = N
  gen : P.root.gen ≤ i
  l : D.l.length ≤ i
theorem CountI.write {N i : Nat} {P : Pgr} {D : Dsk} (h : CountI N i P D) (b : List UInt8) : CountI N (i + 1) (P.write D b).2.2.1 (P.write D b).2.2.2 ∧
    ((P.write D b).2.1 = 0 → (0 ≤ (P.write D b).1 ∧ (P.write D b).1 < (N : Int)) ∧ P.empties.length = (P.write D b).2.2.1.empties.length + 1) ∧ ((P.write D b).2.1 ≠ 0 → (P.write D b).2.2.1 = P) := by
  obtain ⟨was, hi⟩ := h.inv
  obtain ⟨h1, h2⟩ := hi.write b
  by_cases hc : (P.write D b).2.1 = 0
  · obtain ⟨e, e1, e2, e3, e4, e5, e6, e7, e8⟩ := h1 hc
    have hp := h.pages
    have hl := hi.pw.len
    have hfit := hi.pw.fit
    have htop := hi.pw.top
    refine ⟨⟨⟨_, e8⟩, by rw [e5]; exact hp, by rw [e5]; have := h.gen; show P.root.gen ≤ i + 1; omega, by have := h.l; omega⟩, fun _ => ⟨by rw [e1]; omega, ?_⟩, fun hne => absurd hc hne⟩
    rw [e5]
    exact empties_set P e e2 (by omega) e3 2 (by decide)
  · obtain ⟨e1, e2⟩ := h2 hc
    rw [e1, e2]
    exact ⟨⟨⟨_, hi⟩, h.pages, by have := h.gen; omega, by have := h.l; omega⟩, fun e => absurd e hc, fun _ => rfl⟩
theorem CountI.release {N i : Nat} {P : Pgr} {D : Dsk} (h : CountI N i P D) (n : Int) : CountI N (i + 1) (P.release n) D ∧ (P.whyRelease n = 0 → (P.release n).empties.length = P.empties.length + 1) ∧ (P.whyRelease n ≠ 0 → P.release n = P) := by
  obtain ⟨was, hi⟩ := h.inv
  obtain ⟨h1, h2, h3, h4, h5⟩ := hi.release n
  have hl := hi.pw.len
  have hfit := hi.pw.fit
  have htop := hi.pw.top
  refine ⟨⟨⟨_, h1⟩, by rw [h4]; exact h.pages, by rw [h2]; have := h.gen; omega, by have := h.l; omega⟩, fun hc => ?_, fun hc => ?_⟩
  · unfold Pgr.whyRelease at hc
    unfold Pgr.release
    split at hc
    · rename_i hcc
      rw [if_pos hcc]
      have ht : 0 ≤ n ∧ n < (P.pages : Int) := of_decide_eq_true hcc.1
      exact empties_unset P n.toNat (by omega) (by omega) (by rw [hcc.2]; decide)
    · cases hc
  · unfold Pgr.whyRelease at hc
    unfold Pgr.release
    split at hc
    · exact absurd rfl hc
    · rename_i hcc
      rw [if_neg hcc]
theorem CountI.flip {N i : Nat} {P : Pgr} {D : Dsk} (h : CountI N i P D) (hi60 : i ≤ 60) (page next : Int) (m : List UInt8) (l : List Int) : CountI N (i + 1) (P.flip D page next m l).2.1 (P.flip D page next m l).2.2 ∧
    ((P.flip D page next m l).1 = 0 → (P.flip D page next m l).2.1.empties.length + several l = N) ∧ ((P.flip D page next m l).1 ≠ 0 → (P.flip D page next m l).2.1.empties.length = P.empties.length) := by
  obtain ⟨was, hi⟩ := h.inv
  have hg := h.gen
  have hfit := hi.pw.fit
  have htop := hi.pw.top
  obtain ⟨h1, h2⟩ := hi.flip page next m l (by omega)
  by_cases hc : (P.flip D page next m l).1 = 0
  · obtain ⟨e1, e2, e3, e4, e5, e6⟩ := h1 hc
    obtain ⟨-, -, -, hl, -⟩ := whyFlip_ok e1
    refine ⟨⟨⟨_, e6⟩, by rw [e3]; exact h.pages, by rw [e3]; show P.root.gen + 1 ≤ i + 1; omega, by rw [e4]; simp⟩, fun _ => ?_, fun hne => absurd hc hne⟩
    rw [e3, ← h.pages]
    exact empties_setAll P (by omega) l (fun x hx => by obtain ⟨n, rfl, h3, -⟩ := hl x hx; omega) _
  · obtain ⟨e1, e2, e3, e4, e5, e6, e7⟩ := h2 hc
    refine ⟨⟨⟨_, e6⟩, by rw [e4]; exact h.pages, by rw [e1]; omega, by rw [e5]; have := h.l; omega⟩, fun e => absurd e hc, fun _ => ?_⟩
    unfold Pgr.empties
    rw [e4]
    refine congrArg List.length (List.filter_congr (fun n _ => ?_))
    unfold freeAt
    rw [e2]
theorem CountI.next {N i : Nat} {P : Pgr} {D : Dsk} (h : CountI N i P D) : CountI N (i + 1) P D := ⟨h.inv, h.pages, by have := h.gen; omega, by have := h.l; omega⟩

def TC5 (w0 : World) (p q : Nat) (D : Dsk) (P : Pgr) : List (Thg w0.heap.size) := [DiskT w0.heap.size p D, PT w0.heap.size q p P]
def TC5o (w0 : World) (p q : Nat) (D : Dsk) (P : Pgr) (k : Nat) (o : Obj) : List (Thg w0.heap.size) := [DiskT w0.heap.size p D, PT w0.heap.size q p P, BlkT w0.heap.size k o]

set_option maxHeartbeats 4000000 in
set_option maxRecDepth 100000 in
theorem counts_walk (n : Int) (a : Option Addr) (l : List OpW) (cap : Nat) (w : World) (ha : OpWsAt w a l) :
    Calls Try.prog 22 #[.int .i64 n, .slice a l.length cap] w fun e w' => e = .returned (.bool true) ∧ Below w.heap.size w w' := by
  have L0 : Apart w w.heap.size [] w := Apart.nil (Below.refl _ _) (Nat.le_refl _)
  obtain ⟨C, hC⟩ : ∃ C : Nat, (C : Int) = n % 12 := ⟨(n % 12).toNat, by omega⟩
  have hC11 : C ≤ 11 := by omega
  have KC : ∀ w, Calls Try.prog 26 #[.int .i64 n, .int .i64 12] w fun e w' => e = .returned (.int .i64 (C : Int)) ∧ w = w' := fun w => by rw [hC]; exact count_any n 12 w (by decide) (by decide)
  obtain ⟨N, hN⟩ : ∃ N, N = 1 + C := ⟨_, rfl⟩
  obtain ⟨S, hS⟩ : ∃ S, S = N + 2 := ⟨_, rfl⟩
  have e1 : IntKind.i64.wrap (1 + (C : Int)) = (N : Int) := by rw [hN]; push_cast; exact IntWalk.i64_in _ (by omega)
  have e2 : IntKind.i64.wrap ((N : Int) + 2) = (S : Int) := by rw [hS]; push_cast; exact IntWalk.i64_in _ (by omega)
  have hS1 : 3 ≤ S := by omega
  have hS2 : S ≤ 14 := by omega
  have hN1 : (N : Int) ≤ 12 := by omega
  have hop := opened_zeros S hS1
  rw [show S - 2 = N by omega] at hop
  have hfr := empties_zeros N
  have hinv := PInv.start S hS1 (by omega) (fun _ => [])
  rw [show S - 2 = N by omega] at hinv
  have HC := Lib.hid KC
  have HOP := Lib.hid hop
  have HFR := Lib.hid hfr
  have HI := Lib.hid hinv
  have HSN := Lib.hid hS
  clear hC KC hN hS hop hfr hinv
  go_enter Try.func22, Try.ntmps22
  go_wp2_with fail
  refine (HC.out _).mono ?_
  rintro e w' ⟨rfl, rfl⟩
  go_wp2_with fail
  refine (L0.newDisk S (by omega) (by omega)).mono ?_
  rintro e w1 ⟨p, rfl, L1⟩
  clear L0 HC
  have K2 := L1.popen2 0 rfl 0 S (by omega) hS1 (by simp [Dsk.of, Dsk.N])
  rw [HOP.out] at K2
  go_wp2_with fail
  refine K2.mono ?_
  rintro e w2 ⟨q, a2, c2, rfl, L2⟩
  clear K2
  rw [show rootV Rt.none (.slice a2 Rt.none.mt.length c2) = .agg #[.int .i64 0, .int .i64 (-1), .int .i64 1, .slice a2 0 c2] from rfl]
  replace L2 : Apart w w.heap.size (TC5 w p q (Dsk.of (List.replicate (S * 256) 0)) ⟨0, N, zeros4096, Rt.none, false⟩) w2 := L2.take 2
  clear L1
  go_upto_region 6 with fail
  obtain ⟨W3, hW3⟩ : ∃ W3, W3 = w2.alloc (Obj.cells #[Value.int IntKind.i64 0, Value.int IntKind.i64 (-1), Value.int IntKind.i64 1, Value.slice a2 0 c2] 95) := ⟨_, rfl⟩
  rw [← hW3]
  have L3 := L2.alloc (Obj.cells #[Value.int IntKind.i64 0, Value.int IntKind.i64 (-1), Value.int IntKind.i64 1, Value.slice a2 0 c2] 95)
  rw [← hW3] at L3
  clear hW3 L2
  generalize w2.heap.size = kr at *
  have KF := L3.pfree 1 rfl (by show N ≤ 4096; omega)
  rw [HFR.out] at KF
  go_wp2_with fail
  refine KF.mono ?_
  rintro e w4 ⟨rfl, L4⟩
  clear KF L3
  have hc0 : CountI N 0 ⟨0, N, zeros4096, Rt.none, false⟩ (Dsk.of (List.replicate (S * 256) 0)) := ⟨⟨_, HI.out⟩, rfl, Nat.le_refl _, Nat.zero_le _⟩
  go_wp2_with fail
  go_loopw [10] (fun v10 wr => ∃ (i : Nat) (P : Pgr) (D : Dsk), i ≤ l.length ∧ i ≤ 60 ∧ v10 = .int .i64 (i : Int) ∧ CountI N i P D ∧ Apart w w.heap.size (TC5 w p q D P) wr) (fun v10 _ => 60 - (intOf v10).toNat)
  case atStart => exact ⟨0, _, _, Nat.zero_le _, Nat.zero_le _, rfl, hc0, L4⟩
  case round =>
    clear hc0 L4
    obtain ⟨i, P, D, hi, hi60, rfl, hI, L⟩ := hrel
    have hpg : P.pages ≤ 4096 := by have := hI.pages; omega
    by_cases hlt : (i : Int) < (l.length : Int)
    · by_cases h60 : (i : Int) < 60
      · obtain ⟨bb, off, rfl, ab, cb, al, cl, q0, q1, q2, q3, q4, r1, r2, r3, r4, r5, r6, r7, -⟩ := ha.here L.bel (k := i) (by omega)
        generalize l[i] = o at *
        have R1 := Lib.hid r1
        have R3 := Lib.hid r3
        have R6 := Lib.hid r6
        have R7 := Lib.hid r7
        have HIi := Lib.hid hI
        clear r1 r3 r6 r7 hI ha
        go_upto_region 12 with fail
        obtain ⟨W1, hW1⟩ : ∃ W1, W1 = wr.alloc (opWO o ab cb al cl) := ⟨_, rfl⟩
        rw [show wr.alloc (Obj.cells #[.int .i64 o.kind, .int .i64 o.n, .int .i64 o.m, .slice ab o.b.length cb, .slice al o.l.length cl] 102) = W1 from hW1.symm]
        have L1 := L.lay (opWO o ab cb al cl)
        rw [← hW1] at L1
        clear hW1 L q0 q1 q2 q3 q4
        generalize wr.heap.size = k at *
        replace L1 : Apart w w.heap.size (TC5o w p q D P k (opWO o ab cb al cl)) W1 := L1
        have KF := L1.pfree 1 rfl hpg
        go_wp2_with fail
        refine KF.mono ?_
        rintro e w5 ⟨rfl, L5⟩
        clear KF L1
        obtain ⟨y0, y1, y2, y3, y4⟩ := L5.opCells 2 rfl
        go_upto_block 2 with fail
        go_cut [13, 69] (fun v13 _ wx => ∃ P' D', v13 = .int .i64 (P'.empties.length : Int) ∧ CountI N (i + 1) P' D' ∧ Apart w w.heap.size (TC5 w p q D' P') wx)
        case first =>
          have hel := empties_le P
          have hwf := (HIi.out.inv.choose_spec).pw
          have hlim : D.l.length + 1 ≤ 1048576 := by have := HIi.out.l; omega
          by_cases hk012 : o.kind = 0 ∨ o.kind = 1 ∨ o.kind = 2
          · have hb5 : BytesAt w5 ab o.b := R1.out.below L5.bel R6.out
            have KW := L5.pwrite 1 0 rfl rfl (by decide) hwf hlim ab o.b o.b.length cb rfl hb5
            obtain ⟨j1, j2, j3⟩ := HIi.out.write o.b
            obtain ⟨⟨n1, why, P2, D2⟩, ho⟩ : ∃ x, P.write D o.b = x := ⟨_, rfl⟩
            rw [ho] at KW j1 j2 j3
            simp only at j1 j2 j3 KW
            have J1 := Lib.hid j1
            have J2 := Lib.hid j2
            have J3 := Lib.hid j3
            replace KW := Lib.hid KW
            clear j1 j2 j3 ho hb5 hwf
            rcases hk012 with hk | hk | hk
            all_goals
              rw [hk] at y0
              go_wp2_with fail
              refine KW.out.mono ?_
              rintro e w6 ⟨rfl, L6⟩
              replace L6 : Apart w w.heap.size (TC5o w p q D2 P2 k (opWO o ab cb al cl)) w6 := L6
              have L7 := L6.take 2
              replace L7 : Apart w w.heap.size (TC5 w p q D2 P2) w6 := L7
              clear L6 KW
              by_cases hc : why = 0
              · subst hc
                obtain ⟨⟨d1, d2⟩, d3⟩ := J2.out rfl
                have he : IntKind.i64.wrap ((P.empties.length : Int) - 1) = (P2.empties.length : Int) := by rw [d3]; push_cast; rw [Int.add_sub_cancel]; exact IntWalk.i64_in _ (by omega)
                have d1' : (n1 < 0) = False := by simp; omega
                clear d3
                go_wp2_with fail
                go_meet
                exact ⟨P2, D2, rfl, J1.out, L7⟩
              · have hcb : (why == 0) = false := by simpa using hc
                have d3 := J3.out hc
                have HC2 := Lib.hid d3
                clear hc d3
                go_wp2_with fail
                go_meet
                exact ⟨P2, D2, by rw [HC2.out], J1.out, L7⟩
          · by_cases hk3 : o.kind = 3
            · rw [hk3] at y0
              have KR := L5.prelease 1 rfl hpg o.n
              obtain ⟨j1, j2, j3⟩ := HIi.out.release o.n
              generalize P.whyRelease o.n = why at *
              generalize P.release o.n = P2 at *
              have J1 := Lib.hid j1
              have J2 := Lib.hid j2
              have J3 := Lib.hid j3
              replace KR := Lib.hid KR
              clear j1 j2 j3 hk012 hwf
              go_wp2_with fail
              refine KR.out.mono ?_
              rintro e w6 ⟨rfl, L6⟩
              have L7 := L6.take 2
              replace L7 : Apart w w.heap.size (TC5 w p q D P2) w6 := L7
              clear L6 KR
              by_cases hc : why = 0
              · subst hc
                have d3 := J2.out rfl
                have he : IntKind.i64.wrap ((P.empties.length : Int) + 1) = (P2.empties.length : Int) := by rw [d3]; push_cast; exact IntWalk.i64_in _ (by omega)
                clear d3
                go_wp2_with fail
                go_meet
                exact ⟨P2, D, rfl, J1.out, L7⟩
              · have hcb : (why == 0) = false := by simpa using hc
                have HC2 := Lib.hid (J3.out hc)
                clear hc
                go_wp2_with fail
                go_meet
                exact ⟨P2, D, by rw [HC2.out], J1.out, L7⟩
            · by_cases hk45 : o.kind = 4 ∨ o.kind = 5
              · have hb5 : BytesAt w5 ab o.b := R1.out.below L5.bel R6.out
                have hl5 : IntsAt w5 al o.l := R3.out.mod (Mod.of_below L5.bel) (fun x hx hne e => by have := R7.out x hx hne; omega)
                have KF := L5.pflip 1 0 rfl rfl (by decide) hwf hlim (by have := HIi.out.gen; omega) o.n o.m ab o.b o.b.length cb rfl (by omega) r2 hb5 al o.l o.l.length cl rfl (by omega) hl5 R7.out
                obtain ⟨j1, j2, j3⟩ := HIi.out.flip (by omega) o.n o.m o.b o.l
                obtain ⟨⟨why, P2, D2⟩, ho⟩ : ∃ x, P.flip D o.n o.m o.b o.l = x := ⟨_, rfl⟩
                rw [ho] at KF j1 j2 j3
                simp only at j1 j2 j3 KF
                have J1 := Lib.hid j1
                have J2 := Lib.hid j2
                have J3 := Lib.hid j3
                replace KF := Lib.hid KF
                have HL5 := Lib.hid hl5
                clear j1 j2 j3 ho hb5 hl5 hwf hk012 hk3
                rcases hk45 with hk | hk
                all_goals
                  rw [hk] at y0
                  go_wp2_with fail
                  refine KF.out.mono ?_
                  rintro e w6 ⟨rfl, L6⟩
                  replace L6 : Apart w w.heap.size (TC5o w p q D2 P2 k (opWO o ab cb al cl)) w6 := L6
                  have L7 := L6.take 2
                  replace L7 : Apart w w.heap.size (TC5 w p q D2 P2) w6 := L7
                  by_cases hc : why = 0
                  · subst hc
                    have d3 := J2.out rfl
                    obtain ⟨z0, z1, z2, z3, z4⟩ := L6.opCells 2 rfl
                    have he : IntKind.i64.wrap ((N : Int) - (several o.l : Int)) = (P2.empties.length : Int) := by rw [← d3]; push_cast; rw [Int.add_sub_cancel]; exact IntWalk.i64_in _ (by have := empties_le P2; have := J1.out.pages; omega)
                    have KS := several_any (w := w6) al o.l o.l.length cl rfl (by omega) (R3.out.mod (Mod.of_below L6.bel) (fun x hx hne e => by have := R7.out x hx hne; omega))
                    replace KS := Lib.hid KS
                    clear d3 L6 KF
                    go_wp2_with fail
                    refine KS.out.mono ?_
                    rintro e w8 ⟨rfl, m8⟩
                    have L8 := L7.still m8
                    clear KS L7 m8
                    go_wp2_with fail
                    go_meet
                    exact ⟨P2, D2, rfl, J1.out, L8⟩
                  · have hcb : (why == 0) = false := by simpa using hc
                    have HC2 := Lib.hid (J3.out hc)
                    clear hc KF L6
                    go_wp2_with fail
                    go_meet
                    exact ⟨P2, D2, by rw [HC2.out], J1.out, L7⟩
              · have h0 : ¬ o.kind = 0 := fun e => hk012 (.inl e)
                have h1 : ¬ o.kind = 1 := fun e => hk012 (.inr (.inl e))
                have h2 : ¬ o.kind = 2 := fun e => hk012 (.inr (.inr e))
                have h4 : ¬ o.kind = 4 := fun e => hk45 (.inl e)
                have h5 : ¬ o.kind = 5 := fun e => hk45 (.inr e)
                have L7 := L5.take 2
                replace L7 : Apart w w.heap.size (TC5 w p q D P) w5 := L7
                clear hk012 hk45
                go_wp2_with fail
                go_meet
                exact ⟨P, D, rfl, HIi.out.next, L7⟩
        case rest =>
          obtain ⟨P', D', rfl, hI', L6⟩ := hcut
          have KF := L6.pfree 1 rfl (by have := hI'.pages; omega)
          go_wp2_with fail
          refine KF.mono ?_
          rintro e w7 ⟨rfl, L7⟩
          go_wp2_with fail
          go_roundw
          case rel => exact ⟨i + 1, P', D', by omega, by omega, by go_num, hI', L7⟩
          case measure => simp [intOf]; omega
      · go_wp2_with fail
        refine L.known5.mono ?_
        rintro e w5 ⟨rfl, L5⟩
        have hb := L5.bel
        go_wp2
        go_ret
        exact ⟨rfl, hb⟩
    · go_wp2_with fail
      refine L.known5.mono ?_
      rintro e w5 ⟨rfl, L5⟩
      have hb := L5.bel
      go_wp2
      go_ret
      exact ⟨rfl, hb⟩

theorem counts_all (W : World) {a0 : Int} {P : Prop} (_ : P) {v1 : Value} {l1 : List OpW} (o1 : RdO5 W v1 l1) : Calls Try.prog 22 #[.int .i64 a0, v1] W fun e W' => e = .returned (.bool true) ∧ Below W.heap.size W W' := by
  obtain ⟨a, cap, rfl, h, -⟩ := o1
  exact counts_walk a0 a l1 cap W h
end Go.Proofs.Ytdinnkacilgmmaa
