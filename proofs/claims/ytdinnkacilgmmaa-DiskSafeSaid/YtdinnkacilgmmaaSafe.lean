/- DiskSafe: the walk. -/
import Derived.Test.YtdinnkacilgmmaaSafeA
namespace Go.Proofs.Ytdinnkacilgmmaa
open Go.RowKit

theorem Apart.cellBase {w0 w : World} {Ts : List (Thg w0.heap.size)} (h : Apart w0 w0.heap.size Ts w) {a : Addr} {v : Value} (hc : w0.cell? a = some v) : w.cell? a = some v :=
  (h.bel.cell (p := a) (World.block_lt_of_cell? _ _ hc)).trans hc
/-- a call of a script, at whatever world -/
theorem Apart.doBase {w0 w : World} {Ts : List (Thg w0.heap.size)} {p : Nat} {D : Dsk} (h : Apart w0 w0.heap.size Ts w) (i : Nat) (hi : Ts[i]? = some (DiskT w0.heap.size p D)) (hlim : D.l.length + 1 ≤ 1048576) (o : OpV) (ab : Option Addr) (cb : Nat) (al : Option Addr) (cl : Nat)
    (hb : BytesAt w0 ab o.b) (hab : ab = none → cb = 0) (hl : IntsAt w0 al o.l) (hm : o.b.length ≤ 140737488351232) (hml : o.l.length ≤ 140737488351232)
    (hbB : ∀ x, ab = some x → o.b ≠ [] → x.block < w0.heap.size) (hlB : ∀ x, al = some x → o.l ≠ [] → x.block < w0.heap.size) :
    Calls Try.prog 32 #[.pointer (some ⟨p, 0, none⟩), .agg #[.int .i64 o.kind, .int .i64 o.n, .slice ab o.b.length cb, .slice al o.l.length cl]] w fun e w' =>
      e = .returned (.int .i64 (D.doCode o)) ∧ Apart w0 w0.heap.size (Ts.set i (DiskT w0.heap.size p (D.step o))) w' :=
  h.doOp i hi hlim o ab cb al cl (hb.below h.bel hbB) hab (hl.mod (Mod.of_below h.bel) (fun x hx hne e => by have := hlB x hx hne; omega)) hm hml hbB hlB
theorem Apart.crashBase {w0 w : World} {Ts : List (Thg w0.heap.size)} {p : Nat} {D : Dsk} (h : Apart w0 w0.heap.size Ts w) (i : Nat) (hi : Ts[i]? = some (DiskT w0.heap.size p D)) (a : Option Addr) (ks : List Int) (m cap : Nat) (hm' : ks.length = m) (hk : IntsAt w0 a ks) (hm : ks.length ≤ 140737488351232) :
    Calls Try.prog 33 #[.pointer (some ⟨p, 0, none⟩), .slice a m cap] w fun e w' => e = .returned (.int .i64 0) ∧ Apart w0 w0.heap.size (Ts.set i (DiskT w0.heap.size p (D.crash ks))) w' := by
  have hkB : ∀ x, a = some x → ks ≠ [] → x.block < w0.heap.size := fun x hx hne => by
    subst hx
    obtain ⟨b', off', e, hc⟩ := hk hne
    cases e
    exact World.block_lt_of_cell? _ _ (hc 0 (List.length_pos_iff.2 hne))
  exact h.crash i hi a ks m cap hm' (hk.mod (Mod.of_below h.bel) (fun x hx hne e => by have := hkB x hx hne; omega)) hkB (by omega)

/-- the disk behind some writes -/
def SD (s : List UInt8) (l : List OpV) : Dsk := ⟨s, wrs l, false, false, false⟩
theorem sd_N {s : List UInt8} (hs : s.length = 6 * 256) (l : List OpV) : (SD s l).N = 6 := by unfold Dsk.N SD; simp only; rw [hs]
theorem sd_ok {s : List UInt8} (hs : s.length = 6 * 256) (l : List OpV) (o : OpV) (h : (SD s l).why o.n o.b = 0) :
    (SD s l).write o.n o.b = SD s (l ++ [o]) ∧ 0 ≤ o.n ∧ o.n < 6 ∧ o.b.length ≤ 256 := by
  refine ⟨?_, ?_⟩
  · unfold Dsk.write
    rw [if_pos h]
    unfold SD wrs
    simp
  · unfold Dsk.why at h
    rw [sd_N hs, if_neg (show ¬ (SD s l).gone = true by intro e; cases e)] at h
    split at h
    · exact absurd h (by decide)
    split at h
    · exact absurd h (by decide)
    · omega
theorem sd_no {s : List UInt8} (l : List OpV) (o : OpV) (h : (SD s l).why o.n o.b ≠ 0) : (SD s l).write o.n o.b = SD s l := by
  unfold Dsk.write; rw [if_neg h]

theorem u8_beq (c d : UInt8) : ((c.toNat : Int) == (d.toNat : Int)) = (c == d) := by
  rw [Bool.eq_iff_iff, beq_iff_eq, beq_iff_eq]
  constructor
  · intro h
    exact UInt8.toNat_inj.1 (by omega)
  · rintro rfl; rfl

theorem new_cells (w : World) (cs : List Value) (t : TypeId) : ∀ (j : Nat) u, cs[j]? = some u → (w.alloc (.cells cs.toArray t)).cell? ((⟨w.heap.size, 0, none⟩ : Addr).add j) = some u := by
  intro j u hu
  have hadd : (⟨w.heap.size, 0, none⟩ : Addr).add j = ⟨w.heap.size, j, none⟩ := by unfold Addr.add; split <;> simp_all
  rw [hadd, cell_of_row _ w.heap.size j _ t (0, 0) (heap_alloc_new w _)]
  simpa using hu

/-- the disk, what was safe, the writes -/
def TA (W : World) (B p : Nat) (s : List UInt8) (vs vl : Value) (l : List OpV) : List (Thg B) := [DiskT B p (SD s l), BytesT B vs s, OpsT W B vl l]
def TE (W : World) (B p : Nat) (C : Dsk) (s t : List UInt8) (vs vl vi : Value) (l : List OpV) : List (Thg B) := [DiskT B p C, BytesT B vs s, OpsT W B vl l, BytesT B vi t]

set_option maxHeartbeats 4000000 in
set_option maxRecDepth 100000 in
theorem safe_walk (a : Option Addr) (l : List OpV) (cap : Nat) (am : Option Addr) (lm : List OpV) (capm : Nat) (ak : Option Addr) (ks : List Int) (capk : Nat) (w : World) (ha : OpsAt w a l) (hma : OpsAt w am lm) (hka : IntsAt w ak ks)
    (_h1 : l.length ≤ 140737488351232) (_h2 : lm.length ≤ 140737488351232) (hks : ks.length ≤ 140737488351232) :
    Calls Try.prog 8 #[.slice a l.length cap, .slice am lm.length capm, .slice ak ks.length capk] w fun e w' => e = .returned (.bool true) ∧ Below w.heap.size w w' := by
  have L0 : Apart w w.heap.size [] w := Apart.nil (Below.refl _ _) (Nat.le_refl _)
  go_enter Try.func8, Try.ntmps8
  go_wp2_with fail
  refine (L0.newDisk 6 (by decide) (by decide)).mono ?_
  rintro e w1 ⟨p, rfl, L1⟩
  clear L0
  replace L1 : Apart w w.heap.size [DiskT w.heap.size p (Dsk.of (List.replicate (6 * 256) 0))] w1 := L1
  go_upto_block 0 with fail
  go_cut [] (fun wx => ∃ D : Dsk, D.safe.length = 6 * 256 ∧ Apart w w.heap.size [DiskT w.heap.size p D] wx)
  case first =>
    go_wp2_with fail
    go_loopw [9] (fun v9 wr => ∃ (k : Nat) (D : Dsk), k ≤ l.length ∧ k ≤ 60 ∧ v9 = .int .i64 (k : Int) ∧ D.safe.length = 6 * 256 ∧ D.l.length ≤ k ∧ Apart w w.heap.size [DiskT w.heap.size p D] wr) (fun v9 _ => 60 - (intOf v9).toNat)
    case atStart => exact ⟨0, _, Nat.zero_le _, Nat.zero_le _, rfl, by show (List.replicate (6 * 256) (0 : UInt8)).length = _; rw [List.length_replicate], Nat.zero_le _, L1⟩
    case round =>
      obtain ⟨k, D, hk, hk6, rfl, hDs, hDl, L⟩ := hrel
      by_cases hlt : (k : Int) < (l.length : Int)
      · by_cases h60 : (k : Int) < 60
        · obtain ⟨bb, off, rfl, ab', cb', al, cl, q0, q1, q2, q3, r1, r2, r3, r4, r5, r6, r7⟩ := ha.here L.bel (k := k) (by omega)
          generalize l[k] = o at *
          have hwf := (L.disk 0 rfl).elim fun _ hd => hd.wf
          have hstep := hwf.step_len o
          go_wp2_with fail
          refine (L.doOp 0 rfl (by omega) o ab' cb' al cl r1 r2 r3 r4 r5 r6 r7).mono ?_
          rintro e w2 ⟨rfl, L2⟩
          go_wp2
          go_roundw
          case rel => exact ⟨k + 1, D.step o, by omega, by omega, by go_num, hstep.1.trans hDs, by have := hstep.2; omega, L2⟩
          case measure => simp [intOf]; omega
        · go_wp2
          go_meet
          exact ⟨D, hDs, L⟩
      · go_wp2
        go_meet
        exact ⟨D, hDs, L⟩
  case rest =>
    obtain ⟨D, hDs, L⟩ := hcut
    clear L1 ha
    go_wp2_with fail
    refine (L.crashNil 0 rfl).mono ?_
    rintro e w4 ⟨rfl, L4⟩
    replace L4 : Apart w w.heap.size [DiskT w.heap.size p (SD D.safe [])] w4 := by
      rw [show D.crash [] = SD D.safe [] by unfold Dsk.crash; rw [crashed_nil]; rfl] at L4; exact L4
    generalize D.safe = s at *
    have HS := Lib.hid hDs
    clear hDs L
    go_wp2_with fail
    refine (L4.image 0 rfl).mono ?_
    rintro e w5 ⟨vs, rfl, L5⟩
    have L6 := L5.bareO (W := w)
    replace L6 : Apart w w.heap.size (TA w w.heap.size p s vs (.slice none 0 0) []) w5 := L6
    obtain ⟨asx, csx, es, -, -, -⟩ := (L6.bytes 1 rfl).shape
    have hs15 : s.length = 1536 := HS.out
    rw [hs15] at es
    clear hs15
    subst es
    clear L4 L5
    go_upto_block 2 with fail
    go_cut [11] (fun v11 wx => ∃ lo : List OpV, lo.length ≤ 60 ∧ (∀ o ∈ lo, 0 ≤ o.n ∧ o.n < 6 ∧ o.b.length ≤ 256) ∧ Apart w w.heap.size (TA w w.heap.size p s (.slice asx 1536 csx) v11 lo) wx)
    case first =>
      go_wp2_with fail
      go_loopw [11, 12] (fun v11 v12 wr => ∃ (k : Nat) (lo : List OpV), k ≤ lm.length ∧ k ≤ 60 ∧ v12 = .int .i64 (k : Int) ∧ lo.length ≤ k ∧ (∀ o ∈ lo, 0 ≤ o.n ∧ o.n < 6 ∧ o.b.length ≤ 256) ∧ Apart w w.heap.size (TA w w.heap.size p s (.slice asx 1536 csx) v11 lo) wr) (fun _ v12 _ => 60 - (intOf v12).toNat)
      case atStart => exact ⟨0, [], Nat.zero_le _, Nat.zero_le _, rfl, Nat.zero_le _, (fun o ho => by cases ho), L6⟩
      case round =>
        obtain ⟨k, lo, hk, hk6, rfl, hlo, hall, L⟩ := hrel
        clear L6
        have HALL := Lib.hid hall
        clear hall
        by_cases hlt : (k : Int) < (lm.length : Int)
        · by_cases h60 : (k : Int) < 60
          · obtain ⟨bb, off, rfl, ab', cb', al, cl, q0, q1, q2, q3, r1, r2, r3, r4, r5, r6, r7⟩ := hma.here (Below.refl _ _) (k := k) (by omega)
            generalize lm[k] = o at *
            have hop : OpIs w [.int .i64 o.kind, .int .i64 o.n, .slice ab' o.b.length cb', .slice al o.l.length cl] o := ⟨ab', cb', al, cl, rfl, r1, r2, r3, r4, r5⟩
            have hl1 : (SD s lo).l.length + 1 ≤ 1048576 := by show (wrs lo).length + 1 ≤ _; unfold wrs; rw [List.length_map]; omega
            have KD : ∀ w', Apart w w.heap.size (TA w w.heap.size p s (.slice asx 1536 csx) u11 lo) w' → Calls Try.prog 32 #[.pointer (some ⟨p, 0, none⟩), .agg #[.int .i64 o.kind, .int .i64 o.n, .slice ab' o.b.length cb', .slice al o.l.length cl]] w' fun e w'' => e = .returned (.int .i64 ((SD s lo).doCode o)) ∧ Apart w w.heap.size [DiskT w.heap.size p ((SD s lo).step o), BytesT w.heap.size (.slice asx 1536 csx) s, OpsT w w.heap.size u11 lo] w'' := fun w' h => h.doBase 0 rfl hl1 o ab' cb' al cl r1 r2 r3 r4 r5 r6 r7
            replace KD := Lib.hid KD
            have HOP := Lib.hid hop
            have HMA := Lib.hid hma
            clear hop hl1 r1 r2 r3 r4 r5 r6 r7 hma
            have p0 := L.cellBase q0
            have p1 := L.cellBase q1
            have p2 := L.cellBase q2
            have p3 := L.cellBase q3
            by_cases h01 : o.kind = 0 ∨ o.kind = 1
            · have e1 : (SD s lo).doCode o = (SD s lo).why o.n o.b := by simp [Dsk.doCode, h01]
              have e2 : (SD s lo).step o = (SD s lo).write o.n o.b := by simp [Dsk.step, h01]
              rw [e1, e2] at KD
              clear e1 e2
              by_cases hw : (SD s lo).why o.n o.b = 0
              · obtain ⟨hw1, hw2⟩ := sd_ok HS.out lo o hw
                rw [hw, hw1] at KD
                have HW2 := Lib.hid hw2
                clear hw hw1 hw2
                rcases h01 with h0 | h0
                all_goals
                  rw [h0] at p0 q0 KD HOP
                  go_wp2_with fail
                  refine (KD.out _ L).mono ?_
                  rintro e w6 ⟨rfl, L7⟩
                  replace L7 : Apart w w.heap.size [DiskT w.heap.size p (SD s (lo ++ [o])), BytesT w.heap.size (.slice asx 1536 csx) s, OpsT w w.heap.size u11 lo] w6 := L7
                  have g0 := L7.cellBase q0
                  have g1 := L7.cellBase q1
                  have g2 := L7.cellBase q2
                  have g3 := L7.cellBase q3
                  clear p0 p1 p2 p3
                  have HO : ∀ X, OwnO w (w6.alloc X) w.heap.size u11 lo := fun X => (L7.alloc X).ops 2 rfl
                  have HLE : ∀ X, w.heap.size ≤ (w6.alloc X).heap.size := fun X => (L7.alloc X).le
                  replace HO := Lib.hid HO
                  replace HLE := Lib.hid HLE
                  have HL7 := Lib.hid L7
                  clear L7
                  go_wp2_with (first
                    | (at_builtin; refine appO rfl _ _ rfl w.heap.size _ lo rfl (HO.out _) ⟨w6.heap.size, 0, none⟩ 1 o _ rfl HOP.out (new_cells w6 _ 45) (by omega) (HLE.out _) ?_; intro v7 w7 ho7 hm7 hp7))
                  have L8 := (HL7.out.alloc _).grownO 2 rfl ho7 hm7 hp7
                  replace L8 : Apart w w.heap.size (TA w w.heap.size p s (.slice asx 1536 csx) v7 (lo ++ [o])) w7 := L8
                  clear ho7 hm7 hp7 g0 g1 g2 g3
                  go_wp2
                  go_roundw
                  case rel =>
                    refine ⟨k + 1, lo ++ [o], by omega, by omega, by go_num, by rw [List.length_append]; simp; omega, ?_, L8⟩
                    intro x hx
                    rcases List.mem_append.1 hx with hx | hx
                    · exact HALL.out x hx
                    · obtain rfl := List.mem_singleton.1 hx
                      exact HW2.out
                  case measure => simp [intOf]; omega
              · have hw' : ((SD s lo).why o.n o.b == 0) = false := by simpa using hw
                rw [sd_no lo o hw] at KD
                clear hw
                rcases h01 with h0 | h0
                all_goals
                  rw [h0] at p0 q0 KD HOP
                  go_wp2_with fail
                  refine (KD.out _ L).mono ?_
                  rintro e w6 ⟨rfl, L7⟩
                  replace L7 : Apart w w.heap.size (TA w w.heap.size p s (.slice asx 1536 csx) u11 lo) w6 := L7
                  go_wp2
                  go_roundw
                  case rel => exact ⟨k + 1, lo, by omega, by omega, by go_num, by omega, HALL.out, L7⟩
                  case measure => simp [intOf]; omega
            · have h0 : (o.kind == 0) = false := by rw [beq_eq_false_iff_ne]; exact fun e => h01 (.inl e)
              have h1 : (o.kind == 1) = false := by rw [beq_eq_false_iff_ne]; exact fun e => h01 (.inr e)
              clear h01 KD
              go_wp2
              go_roundw
              case rel => exact ⟨k + 1, lo, by omega, by omega, by go_num, by omega, HALL.out, L⟩
              case measure => simp [intOf]; omega
          · go_wp2
            go_meet
            exact ⟨lo, by omega, HALL.out, L⟩
        · go_wp2
          go_meet
          exact ⟨lo, by omega, HALL.out, L⟩
    case rest =>
      obtain ⟨lo, hlo, hall, L⟩ := hcut
      obtain ⟨v11, hv11⟩ : ∃ v, v = u11 := ⟨_, rfl⟩
      subst hv11
      have HALL := Lib.hid hall
      clear hall L6
      go_wp2_with fail
      refine (L.crashBase 0 rfl ak ks _ capk rfl hka hks).mono ?_
      rintro e w6 ⟨rfl, L7⟩
      obtain ⟨t, ht⟩ : ∃ t, t = crashed s (wrs lo) ks := ⟨_, rfl⟩
      obtain ⟨C, hC⟩ : ∃ C, C = (SD s lo).crash ks := ⟨_, rfl⟩
      have hCs : C.safe = t := by rw [hC, ht]; rfl
      have htl : t.length = 1536 := by
        rw [ht]
        have := crashed_length s (wrs lo) ks (fun x hx => by
          obtain ⟨o, ho, rfl⟩ := List.mem_map.1 hx
          have h1 := HALL.out o ho
          have h2 := sect_length o.b h1.2.2
          show o.n.toNat * 256 + (sect o.b).length ≤ s.length
          rw [h2, HS.out]; omega)
        rw [this]; exact HS.out
      replace L7 : Apart w w.heap.size [DiskT w.heap.size p C, BytesT w.heap.size (.slice asx 1536 csx) s, OpsT w w.heap.size v11 lo] w6 := by rw [hC]; exact L7
      clear L hC
      go_wp2_with fail
      refine (L7.image 0 rfl).mono ?_
      rintro e w7 ⟨vi, rfl, L8⟩
      rw [hCs] at L8
      replace L8 : Apart w w.heap.size (TE w w.heap.size p C s t (.slice asx 1536 csx) v11 vi lo) w7 := L8
      clear L7 hCs
      have HP : ∀ i : Nat, i < 1536 → ∃ c d : UInt8, s[i]? = some c ∧ t[i]? = some d ∧ (d == c || lo.any (hits d i)) = true := fun i hi => by rw [ht]; exact safe_plain s lo ks HS.out HALL.out i hi
      replace HP := Lib.hid HP
      obtain ⟨aix, cix, ei, -, -, -⟩ := (L8.bytes 3 rfl).shape
      rw [htl] at ei
      subst ei
      have HTL := Lib.hid htl
      clear ht htl
      obtain ⟨al, cl, el, -, -⟩ := (L8.ops 2 rfl).shape
      subst el
      go_upto_block 4 with fail
      go_cut [] (fun wx => Apart w w.heap.size (TE w w.heap.size p C s t (.slice asx 1536 csx) (.slice al lo.length cl) (.slice aix 1536 cix) lo) wx)
      case first =>
        go_wp2_with fail
        go_loopw [14] (fun v14 wr => ∃ i : Nat, i ≤ 1536 ∧ v14 = .int .i64 (i : Int) ∧ Apart w w.heap.size (TE w w.heap.size p C s t (.slice asx 1536 csx) (.slice al lo.length cl) (.slice aix 1536 cix) lo) wr) (fun v14 _ => 1536 - (intOf v14).toNat)
        case atStart => exact ⟨0, by omega, rfl, L8⟩
        case round =>
          obtain ⟨i, hi, rfl, L9⟩ := hrel
          clear L8
          by_cases hlt : i < 1536
          · have hlt' : (i : Int) < 1536 := by omega
            obtain ⟨c, d, hc, hd, hcd⟩ := HP.out i hlt
            have hbs := L9.bytes 1 rfl
            have hbt := L9.bytes 3 rfl
            obtain ⟨gs, _, _, es, -⟩ := hbs.row (by intro e; rw [e] at hc; simp at hc)
            obtain ⟨gt, _, _, et, -⟩ := hbt.row (by intro e; rw [e] at hd; simp at hd)
            injection es with es _ _
            injection et with et _ _
            subst es et
            obtain ⟨hcl, hce⟩ := List.getElem?_eq_some_iff.1 hc
            obtain ⟨hdl, hde⟩ := List.getElem?_eq_some_iff.1 hd
            have xs := (hbs.cellAt i hcl).1
            have xt := (hbt.cellAt i hdl).1
            rw [hce] at xs
            rw [hde] at xt
            have HCD := Lib.hid hcd
            clear hbs hbt hc hd hcd hce hde hcl hdl
            have hub := u8_beq d c
            go_upto_region 26 with fail
            go_cut [15] (fun v15 wx => v15 = .bool (d == c) ∧ Apart w w.heap.size (TE w w.heap.size p C s t (.slice (some ⟨gs, 0, none⟩) 1536 csx) (.slice al lo.length cl) (.slice (some ⟨gt, 0, none⟩) 1536 cix) lo) wx ∧ wx.cell? ⟨gt, i, none⟩ = some (byteV d))
            case first =>
              go_region_held3 (fun w' => w'.cell? ⟨gs, i, none⟩ = some (byteV c) ∧ w'.cell? ⟨gt, i, none⟩ = some (byteV d)) (refine ⟨?_, ?_⟩ <;> simpa using (by assumption)) (fail)
              go_wp2_with fail
              go_meet
              exact ⟨rfl, L9.drew, by simpa using xt⟩
            case rest =>
              obtain ⟨rfl, L10, yt⟩ := hcut
              clear L9 xs xt hub
              go_upto_block 6 with fail
              go_cut [15] (fun v15 wx => v15 = .bool true ∧ Apart w w.heap.size (TE w w.heap.size p C s t (.slice (some ⟨gs, 0, none⟩) 1536 csx) (.slice al lo.length cl) (.slice (some ⟨gt, 0, none⟩) 1536 cix) lo) wx)
              case first =>
                go_wp2_with fail
                go_loopw [15, 16] (fun v15 v16 wr => ∃ (k : Nat) (ok : Bool), k ≤ lo.length ∧ v16 = .int .i64 (k : Int) ∧ v15 = .bool ok ∧ ok = (d == c || (lo.take k).any (hits d i)) ∧ Apart w w.heap.size (TE w w.heap.size p C s t (.slice (some ⟨gs, 0, none⟩) 1536 csx) (.slice al lo.length cl) (.slice (some ⟨gt, 0, none⟩) 1536 cix) lo) wr ∧ wr.cell? ⟨gt, i, none⟩ = some (byteV d)) (fun _ v16 _ => lo.length - (intOf v16).toNat)
                case atStart => exact ⟨0, _, Nat.zero_le _, rfl, rfl, by simp, L10, yt⟩
                case round =>
                  obtain ⟨k, ok, hk, rfl, rfl, hok, L11, yt⟩ := hrel
                  clear L10
                  have HOK := Lib.hid hok
                  clear hok
                  by_cases hkl : k < lo.length
                  · have hkl' : (k : Int) < (lo.length : Int) := by omega
                    cases ok
                    · obtain ⟨g, cp, e, ab, cb, x1, x2, rb, hna, hbl⟩ := (L11.ops 2 rfl).at k hkl
                      injection e with e _ e2
                      subst e e2
                      have hnext : (d == c || (lo.take (k + 1)).any (hits d i)) = hits d i lo[k] := by
                        rw [List.take_succ_eq_append_getElem hkl, List.any_append, ← Bool.or_assoc, ← HOK.out]
                        simp
                      have HNX := Lib.hid hnext
                      clear hnext
                      generalize lo[k] = o at *
                      have rbc := rb.below L11.bel (fun x e hl => by subst e; exact rb.lt hl)
                      have hi256 : ((i : Int) % 256).toNat = i % 256 := by omega
                      have hi0 : (0 : Int) ≤ (i : Int) % 256 := by omega
                      have hidv : ((i / 256 : Nat) : Int) = (i : Int) / 256 := by omega
                      by_cases hj : i % 256 < o.b.length
                      · have hj' : (i : Int) % 256 < (o.b.length : Int) := by omega
                        obtain ⟨b, off, rfl, hcb⟩ := rbc (by intro e; rw [e] at hj; simp at hj)
                        have zc := hcb (i % 256) hj
                        have hgd : o.b.getD (i % 256) 0 = o.b[i % 256] := by simp [List.getD_eq_getElem?_getD, hj]
                        generalize o.b[i % 256] = cc at *
                        have hub := u8_beq cc d
                        by_cases hN : o.n = (i : Int) / 256
                        · have hh : hits d i o = (cc == d) := by unfold hits; rw [hgd, hidv, hN]; simp
                          have HH := Lib.hid hh
                          have HGD := Lib.hid hgd
                          clear hh hgd rb rbc hcb hna hbl
                          rw [hN] at x1
                          clear hN hidv
                          go_wp2_with fail
                          go_roundw
                          case rel => exact ⟨k + 1, _, by omega, by go_num, rfl, by rw [HNX.out, HH.out], L11, yt⟩
                          case measure => simp [intOf]; omega
                        · have hN' : (o.n == (i : Int) / 256) = false := by rw [beq_eq_false_iff_ne]; exact hN
                          have hh : hits d i o = false := by unfold hits; rw [hidv, hN']; rfl
                          have HH := Lib.hid hh
                          clear hh rb rbc hcb hgd hna hbl hN hidv
                          go_wp2_with fail
                          go_roundw
                          case rel => exact ⟨k + 1, false, by omega, by go_num, rfl, by rw [HNX.out, HH.out], L11, yt⟩
                          case measure => simp [intOf]; omega
                      · have hj' : (o.b.length : Int) ≤ (i : Int) % 256 := by omega
                        have hgd : o.b.getD (i % 256) 0 = 0 := by rw [List.getD_eq_getElem?_getD, List.getElem?_eq_none (by omega)]; rfl
                        have hub : ((0 : Int) == (d.toNat : Int)) = ((0 : UInt8) == d) := u8_beq 0 d
                        by_cases hN : o.n = (i : Int) / 256
                        · have hh : hits d i o = ((0 : UInt8) == d) := by unfold hits; rw [hgd, hidv, hN]; simp
                          have HH := Lib.hid hh
                          clear hh hgd rb rbc hna hbl
                          rw [hN] at x1
                          clear hN hidv
                          go_wp2_with fail
                          go_roundw
                          case rel => exact ⟨k + 1, _, by omega, by go_num, rfl, by rw [HNX.out, HH.out], L11, yt⟩
                          case measure => simp [intOf]; omega
                        · have hN' : (o.n == (i : Int) / 256) = false := by rw [beq_eq_false_iff_ne]; exact hN
                          have hh : hits d i o = false := by unfold hits; rw [hidv, hN']; rfl
                          have HH := Lib.hid hh
                          clear hh rb rbc hna hbl hN hidv
                          go_wp2_with fail
                          go_roundw
                          case rel => exact ⟨k + 1, false, by omega, by go_num, rfl, by rw [HNX.out, HH.out], L11, yt⟩
                          case measure => simp [intOf]; omega
                    · go_wp2
                      go_meet
                      exact ⟨rfl, L11⟩
                  · obtain rfl : k = lo.length := by omega
                    have hok1 : ok = true := by rw [HOK.out, List.take_length]; exact HCD.out
                    subst hok1
                    go_wp2
                    go_meet
                    exact ⟨rfl, L11⟩
              case rest =>
                obtain ⟨rfl, L12⟩ := hcut
                clear L10 yt
                go_wp2
                go_roundw
                case rel => exact ⟨i + 1, by omega, by go_num, L12⟩
                case measure => simp [intOf]; omega
          · obtain rfl : i = 1536 := by omega
            go_wp2
            go_meet
            exact L9
      case rest =>
        clear L8
        go_wp2_with fail
        refine hcut.known3.mono ?_
        rintro e w8 ⟨rfl, L9⟩
        go_wp2
        go_ret
        exact ⟨rfl, L9.bel⟩

theorem safe_all (W : World) {v0 v1 v2 : Value} {l0 l1 : List OpV} {l2 : List Int} (o0 : RdO W v0 l0) (o1 : RdO W v1 l1) (o2 : RdL W v2 l2) :
    Calls Try.prog 8 #[v0, v1, v2] W fun e w' => e = .returned (.bool true) ∧ Below W.heap.size W w' := by
  obtain ⟨a, c, rfl, h0, m0⟩ := o0
  obtain ⟨a1, c1, rfl, h1, m1⟩ := o1
  obtain ⟨a2, c2, rfl, h2, m2⟩ := o2
  exact safe_walk a l0 c a1 l1 c1 a2 l2 c2 W h0 h1 h2 m0 m1 m2
end Go.Proofs.Ytdinnkacilgmmaa
