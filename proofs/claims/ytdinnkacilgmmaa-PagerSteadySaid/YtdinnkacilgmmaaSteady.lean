/- PagerSteady. -/
import Derived.Test.YtdinnkacilgmmaaPag17
import Derived.Test.YtdinnkacilgmmaaLift5
namespace Go.Proofs.Ytdinnkacilgmmaa
open Go.RowKit

/-- before the flip: each page that was written reads as it was read; c: what its pages are marked as -/
structure StI (c : UInt8) (i : Nat) (P : Pgr) (D : Dsk) (used : List Int) (was : List (List UInt8)) : Prop where
  inv : ∃ f, PInv P D f ∧ ∀ k, k < used.length → ∃ n : Nat, used[k]? = some (n : Int) ∧ n < P.pages ∧ P.is_.getD n 0 = c ∧ was[k]? = some (pad (f n))
  pages : P.pages = 12
  bad : D.bad = false
  l : D.l.length ≤ i
  len : was.length = used.length

theorem dwrite_fb (D : Dsk) (n : Int) (b : List UInt8) : (D.write n b).bad = D.bad := by unfold Dsk.write; split <;> rfl

theorem StI.write {c : UInt8} {i : Nat} {P : Pgr} {D : Dsk} {used : List Int} {was : List (List UInt8)} (h : StI c i P D used was) (hc : c ≠ 0) (b : List UInt8) :
    ((P.write D b).2.1 = 0 → ∃ e : Nat, (P.write D b).1 = (e : Int) ∧ e < 12 ∧ StI c (i + 1) (P.write D b).2.2.1 (P.write D b).2.2.2 used was ∧ (P.write D b).2.2.1.root = P.root ∧ (P.write D b).2.2.1.dead = P.dead ∧
      (P.write D b).2.2.1.read (P.write D b).2.2.2 (e : Int) = (pad b, 0) ∧ (c = 2 → StI c (i + 1) (P.write D b).2.2.1 (P.write D b).2.2.2 (used ++ [(e : Int)]) (was ++ [pad b]))) ∧
    ((P.write D b).2.1 ≠ 0 → (P.write D b).2.2.1 = P ∧ (P.write D b).2.2.2 = D) := by
  obtain ⟨f, hi, hu⟩ := h.inv
  obtain ⟨h1, h2⟩ := hi.write b
  refine ⟨fun hz => ?_, h2⟩
  obtain ⟨e, e1, e2, e3, e4, e5, e6, -, e8⟩ := h1 hz
  have hp := h.pages
  have hlen := hi.pw.len
  have hfit := hi.pw.fit
  have htop := hi.pw.top
  have hbad := (pwrite_bad P D b).trans h.bad
  have hl := h.l
  have hold : ∀ k, k < used.length → ∃ n : Nat, used[k]? = some (n : Int) ∧ n < (P.write D b).2.2.1.pages ∧ (P.write D b).2.2.1.is_.getD n 0 = c ∧ was[k]? = some (pad (if n = e then b else f n)) := fun k hk => by
    obtain ⟨n, n1, n2, n3, n4⟩ := hu k hk
    have hne : n ≠ e := fun h => by rw [h, e3] at n3; exact hc n3.symm
    refine ⟨n, n1, by rw [e5]; exact n2, ?_, by rw [if_neg hne]; exact n4⟩
    rw [e5]
    show (P.is_.set e 2).getD n 0 = c
    rw [getD_set _ _ _ _ (by omega), if_neg hne]
    exact n3
  have hie : (P.write D b).2.2.1.is_.getD e 0 = 2 := by
    rw [e5]
    show (P.is_.set e 2).getD e 0 = 2
    rw [getD_set _ _ _ _ (by omega), if_pos rfl]
  refine ⟨e, e1, by omega, ⟨⟨_, e8, hold⟩, by rw [e5]; exact hp, hbad, by omega, h.len⟩, by rw [e5], by rw [e5], ?_, fun hc2 => ⟨⟨_, e8, fun k hk => ?_⟩, by rw [e5]; exact hp, hbad, by omega, by simp [h.len]⟩⟩
  · have := e8.read e (by rw [e5]; exact e2) (by rw [hie]; decide)
    rw [if_pos rfl] at this
    exact this
  · by_cases hk2 : k < used.length
    · rw [List.getElem?_append_left hk2, List.getElem?_append_left (by rw [h.len]; exact hk2)]
      exact hold k hk2
    · have hke : k = used.length := by simp at hk; omega
      subst hke
      refine ⟨e, by simp, by rw [e5]; exact e2, by rw [hie, hc2], ?_⟩
      rw [if_pos rfl, List.getElem?_append_right (by rw [h.len]; exact Nat.le_refl _), h.len, Nat.sub_self]
      rfl
theorem StI.release {i : Nat} {P : Pgr} {D : Dsk} {used : List Int} {was : List (List UInt8)} (h : StI 1 i P D used was) (n : Int) : StI 1 (i + 1) (P.release n) D used was := by
  obtain ⟨f, hi, hu⟩ := h.inv
  obtain ⟨h1, h2, h3, h4, h5⟩ := hi.release n
  refine ⟨⟨f, h1, fun k hk => ?_⟩, by rw [h4]; exact h.pages, h.bad, by have := h.l; omega, h.len⟩
  obtain ⟨m, n1, n2, n3, n4⟩ := hu k hk
  refine ⟨m, n1, by rw [h4]; exact n2, ?_, n4⟩
  unfold Pgr.release
  split
  · rename_i hc
    have ht : 0 ≤ n ∧ n < (P.pages : Int) := of_decide_eq_true hc.1
    have hlen := hi.pw.len
    have hfit := hi.pw.fit
    have htop := hi.pw.top
    show (P.is_.set n.toNat 0).getD m 0 = 1
    rw [getD_set _ _ _ _ (by omega)]
    split
    · rename_i e
      rw [e, hc.2] at n3
      exact absurd n3 (by decide)
    · exact n3
  · exact n3
theorem StI.next {c : UInt8} {i : Nat} {P : Pgr} {D : Dsk} {used : List Int} {was : List (List UInt8)} (h : StI c i P D used was) : StI c (i + 1) P D used was := ⟨h.inv, h.pages, h.bad, by have := h.l; omega, h.len⟩
theorem StI.flip {i : Nat} {P : Pgr} {D : Dsk} {used : List Int} {was : List (List UInt8)} (h : StI 2 i P D used was) (hd : P.dead = false) (hr : P.root.gen = 0) :
    (P.flip D (-1) 1 [] used).1 = 0 ∧ StI 1 0 (P.flip D (-1) 1 [] used).2.1 (P.flip D (-1) 1 [] used).2.2 used was := by
  obtain ⟨f, hi, hu⟩ := h.inv
  have hfit := hi.pw.fit
  have htop := hi.pw.top
  have hall : ∀ x ∈ used, ∃ n : Nat, x = (n : Int) ∧ n < P.pages ∧ P.is_.getD n 0 = 2 := fun x hx => by
    obtain ⟨k, hk, rfl⟩ := List.getElem_of_mem hx
    obtain ⟨n, n1, n2, n3, -⟩ := hu k hk
    rw [List.getElem?_eq_getElem hk] at n1
    exact ⟨n, Option.some.inj n1, n2, n3⟩
  have hw : P.whyFlip (-1) 1 [] used = 0 := by
    unfold Pgr.whyFlip
    have q1 : P.badArgs (-1) 1 = false := rfl
    have q2 : used.any P.noFlip = false := by
      rw [List.any_eq_false]
      intro x hx
      obtain ⟨n, rfl, n2, n3⟩ := hall x hx
      unfold Pgr.noFlip
      have t : P.there (n : Int) = true := decide_eq_true ⟨by omega, by omega⟩
      rw [t, Int.toNat_natCast, n3]
      decide
    rw [if_neg (by rw [hd]; decide), q1, q2]
    rfl
  have h0 := hi.flipOk (by rw [hr]; decide) hw h.bad
  obtain ⟨-, -, e3, e4, e5, e6⟩ := (hi.flip (-1) 1 [] used (by rw [hr]; decide)).1 h0
  refine ⟨h0, ⟨f, e6, fun k hk => ?_⟩, by rw [e3]; exact h.pages, e5, by rw [e4]; exact Nat.zero_le _, h.len⟩
  obtain ⟨n, n1, n2, n3, n4⟩ := hu k hk
  refine ⟨n, n1, by rw [e3]; exact n2, ?_, n4⟩
  rw [e3]
  show (setAll used zeros4096).getD n 0 = 1
  rw [setAll_get used n (by omega) _ zeros4096_length (fun x hx => by obtain ⟨m, rfl, m2, -⟩ := hall x hx; omega), if_pos (List.mem_of_getElem? n1)]
theorem StI.read {i : Nat} {P : Pgr} {D : Dsk} {used : List Int} {was : List (List UInt8)} (h : StI 1 i P D used was) (k : Nat) (hk : k < used.length) : ∃ (n : Int) (x : List UInt8), used[k]? = some n ∧ was[k]? = some x ∧ P.read D n = (x, 0) ∧ x.length = 252 := by
  obtain ⟨f, hi, hu⟩ := h.inv
  obtain ⟨n, n1, n2, n3, n4⟩ := hu k hk
  exact ⟨n, _, n1, n4, hi.read n n2 (by rw [n3]; decide), pad_length _ (hi.now n n2 (by rw [n3]; decide)).2⟩

def TS5 (w0 : World) (p q : Nat) (D : Dsk) (P : Pgr) (vu : Value) (used : List Int) (vw : Value) (was : List (List UInt8)) : List (Thg w0.heap.size) := [DiskT w0.heap.size p D, PT w0.heap.size q p P, IntsT w0.heap.size vu used, VwsT w0.heap.size vw was]
theorem info3 : (Try.prog.info? 3).map (fun i => (i.zero, i.size, i.bytes)) = some (some (.int .i64 0), 1, 8) := by kernel_rfl

set_option maxHeartbeats 4000000 in
set_option maxRecDepth 100000 in
theorem steady_walk (af : Option Addr) (fs : List (List UInt8)) (capf : Nat) (a : Option Addr) (l : List OpW) (cap : Nat) (w : World) (hf : RdBB w af fs) (ha : OpWsAt w a l) :
    Calls Try.prog 20 #[.slice af fs.length capf, .slice a l.length cap] w fun e w' => e = .returned (.bool true) ∧ Below w.heap.size w w' := by
  have L0 : Apart w w.heap.size [] w := Apart.nil (Below.refl _ _) (Nat.le_refl _)
  have hop := opened_zeros 14 (by decide)
  have hinv := PInv.start 14 (by decide) (by decide) (fun _ => [])
  go_enter Try.func20, Try.ntmps20
  go_wp2_with fail
  refine (L0.newDisk 14 (by decide) (by decide)).mono ?_
  rintro e w1 ⟨p, rfl, L1⟩
  clear L0
  have K2 := L1.popen2 0 rfl 0 14 (by decide) (by decide) (by simp [Dsk.of, Dsk.N])
  rw [hop] at K2
  go_wp2_with fail
  refine K2.mono ?_
  rintro e w2 ⟨q, a2, c2, rfl, L2⟩
  clear K2 hop
  rw [show rootV Rt.none (.slice a2 Rt.none.mt.length c2) = .agg #[.int .i64 0, .int .i64 (-1), .int .i64 1, .slice a2 0 c2] from rfl]
  replace L2 : Apart w w.heap.size [DiskT w.heap.size p (Dsk.of (List.replicate (14 * 256) 0)), PT w.heap.size q p ⟨0, 12, zeros4096, Rt.none, false⟩] w2 := L2.take 2
  clear L1
  go_upto_region 5 with fail
  obtain ⟨W3, hW3⟩ : ∃ W3, W3 = w2.alloc (Obj.cells #[Value.int IntKind.i64 0, Value.int IntKind.i64 (-1), Value.int IntKind.i64 1, Value.slice a2 0 c2] 95) := ⟨_, rfl⟩
  rw [← hW3]
  have L3 := ((L2.alloc (Obj.cells #[Value.int IntKind.i64 0, Value.int IntKind.i64 (-1), Value.int IntKind.i64 1, Value.slice a2 0 c2] 95)).intsNil).vwsNil
  rw [← hW3] at L3
  clear hW3 L2
  replace L3 : Apart w w.heap.size (TS5 w p q (Dsk.of (List.replicate (14 * 256) 0)) ⟨0, 12, zeros4096, Rt.none, false⟩ (.slice none 0 0) [] (.slice none 0 0) []) W3 := L3
  generalize w2.heap.size = kr at *
  have hc0 : StI 2 0 ⟨0, 12, zeros4096, Rt.none, false⟩ (Dsk.of (List.replicate (14 * 256) 0)) [] [] := ⟨⟨_, hinv, fun k hk => absurd hk (Nat.not_lt_zero _)⟩, rfl, rfl, Nat.zero_le _, rfl⟩
  have HC0 := Lib.hid hc0
  clear hinv hc0
  go_upto_block 0 with fail
  go_cut [10, 11] (fun v10 v11 wx => ∃ (P : Pgr) (D : Dsk) (used : List Int) (was : List (List UInt8)), used.length ≤ 6 ∧ StI 2 6 P D used was ∧ P.dead = false ∧ P.root.gen = 0 ∧ Apart w w.heap.size (TS5 w p q D P v10 used v11 was) wx)
  case first =>
    go_wp2_with fail
    go_loopw [10, 11, 12] (fun v10 v11 v12 wr => ∃ (i : Nat) (P : Pgr) (D : Dsk) (used : List Int) (was : List (List UInt8)), i ≤ fs.length ∧ i ≤ 6 ∧ v12 = .int .i64 (i : Int) ∧ used.length ≤ i ∧ StI 2 i P D used was ∧ P.dead = false ∧ P.root.gen = 0 ∧ Apart w w.heap.size (TS5 w p q D P v10 used v11 was) wr) (fun _ _ v12 _ => 6 - (intOf v12).toNat)
    case atStart => exact ⟨0, _, _, _, _, Nat.zero_le _, Nat.zero_le _, rfl, Nat.le_refl _, HC0.out, rfl, rfl, L3⟩
    case round =>
      clear L3 HC0
      obtain ⟨i, P, D, used, was, hi, hi6, rfl, hul, hI, hdd, hgg, L⟩ := hrel
      by_cases hlt : (i : Int) < (fs.length : Int)
      · by_cases h6 : (i : Int) < 6
        · obtain ⟨bf, off, x, rfl, q0, hx⟩ := hf.here (i := i) (by omega)
          obtain ⟨ax, cx, rfl, hbx, -⟩ := hx
          have q0' := (L.bel.cell (p := ⟨bf, off + i, none⟩) (World.block_lt_of_cell? _ _ q0)).trans q0
          have hbx' : BytesAt wr ax fs[i] := hbx.below L.bel (fun y hy hne => by subst hy; exact hbx.lt hne)
          obtain ⟨f, hinv, -⟩ := hI.inv
          have hwf := hinv.pw
          have KW := L.pwrite 1 0 rfl rfl (by decide) hwf (by have := hI.l; omega) ax fs[i] fs[i].length cx rfl hbx'
          obtain ⟨j1, j2⟩ := hI.write (by decide) fs[i]
          obtain ⟨⟨n1, why, P2, D2⟩, ho⟩ : ∃ x, P.write D fs[i] = x := ⟨_, rfl⟩
          rw [ho] at KW j1 j2
          simp only at j1 j2 KW
          have J1 := Lib.hid j1
          have J2 := Lib.hid j2
          have HI := Lib.hid hI
          have HD := Lib.hid hdd
          have HG := Lib.hid hgg
          have HF := Lib.hid hf
          replace KW := Lib.hid KW
          clear j1 j2 ho hbx hbx' q0 hwf hinv hI hdd hgg hf
          generalize fs[i] = b at *
          go_wp2_with fail
          refine KW.out.mono ?_
          rintro e w6 ⟨rfl, L6⟩
          replace L6 : Apart w w.heap.size (TS5 w p q D2 P2 u10 used u11 was) w6 := L6
          clear KW L q0'
          by_cases hc : why = 0
          · subst hc
            obtain ⟨e, rfl, e2, e3, e4, e5, e6, e7⟩ := J1.out rfl
            obtain ⟨f2, hinv2, -⟩ := e3.inv
            have hwf2 := hinv2.pw
            have KR := L6.preadT 1 0 rfl rfl hwf2.fit (e : Int)
            rw [e6] at KR
            have E7 := Lib.hid (e7 trivial)
            have E4 := Lib.hid (e4.trans (by exact rfl))
            have E5 := Lib.hid (e5.trans HD.out)
            have E4' := Lib.hid ((congrArg Rt.gen e4).trans HG.out)
            replace KR := Lib.hid KR
            clear e3 e4 e5 e6 e7 hinv2 hwf2 J1 J2 L6 E4
            go_wp2_with fail
            refine KR.out.mono ?_
            rintro e1 w7 ⟨v, rfl, L7⟩
            replace L7 : Apart w w.heap.size [DiskT w.heap.size p D2, PT w.heap.size q p P2, IntsT w.heap.size u10 used, VwsT w.heap.size u11 was, ViewT w.heap.size v (pad b)] w7 := L7
            obtain ⟨o1, o2⟩ := L7.intsPush 2 rfl
            have hle7 := L7.le
            have O2 := Lib.hid o2
            have HL7 := Lib.hid L7
            have HUL : used.length ≤ 100 := by omega
            clear o2 KR L7
            go_upto_region 16 with (at_builtin; refine appR 39 3 _ 1 8 Try.underlying39 info3 rfl (by decide) (by decide) rfl _ _ rfl w.heap.size u10 used.length _ rfl (owns_mod o1 (Mod.alloc (fun _ => False) _ _) (fun _ _ => id)) ⟨w7.heap.size, 0, none⟩ 1 1 [.int .i64 (e : Int)] rfl rfl (cells_new w7 _ 3) (by simp [Value.oneCell']) (by omega) (by simp; omega) ?_; intro v8 w8 ho8 hm8 hb8)
            have L8 := O2.out _ v8 w8 _ ho8 hm8 hb8
            replace L8 : Apart w w.heap.size [DiskT w.heap.size p D2, PT w.heap.size q p P2, IntsT w.heap.size v8 (used ++ [(e : Int)]), VwsT w.heap.size u11 was, ViewT w.heap.size v (pad b)] w8 := L8
            obtain ⟨xs, o3, o4, o5⟩ := L8.vwsPush 3 4 rfl rfl (by decide)
            obtain ⟨av, cv, rfl, -, -⟩ := L8.view 4 rfl
            have hwl : was.length ≤ 100 := by have := HI.out.len; omega
            have hxl : xs.length ≤ 100 := by omega
            have hle8 := L8.le
            have O5 := Lib.hid o5
            have O3 := Lib.hid o3
            have HWL := Lib.hid o4
            clear o1 o3 o4 o5 O2 ho8 hm8 hb8 L8 HL7
            go_wp2_with (first
              | (at_builtin; refine appR 66 22 _ 1 24 Try.underlying66 info22 rfl (by decide) (by decide) rfl _ _ rfl w.heap.size u11 xs.length xs rfl (owns_mod O3.out (Mod.alloc (fun _ => False) _ _) (fun _ _ => id)) ⟨w8.heap.size, 0, none⟩ 1 1 [.slice av (pad b).length cv] rfl rfl (cells_new w8 _ 22) (slices_oneCell _ _ _) (by omega) (by simp; omega) ?_; intro v9 w9 ho9 hm9 hb9))
            have L9 := (O5.out _ v9 w9 ho9 hm9 hb9).take 4
            replace L9 : Apart w w.heap.size (TS5 w p q D2 P2 v8 (used ++ [(e : Int)]) v9 (was ++ [pad b])) w9 := L9
            clear O5 O3 ho9 hm9 hb9
            go_wp2_with fail
            go_roundw
            case rel => exact ⟨i + 1, P2, D2, _, _, by omega, by omega, by go_num, by simp; omega, E7.out, E5.out, E4'.out, L9⟩
            case measure => simp [intOf]; omega
          · have hcb : (why == 0) = false := by simpa using hc
            obtain ⟨rfl, rfl⟩ := J2.out hc
            clear hc J1 J2
            go_wp2_with fail
            go_roundw
            case rel => exact ⟨i + 1, _, _, used, was, by omega, by omega, by go_num, by omega, HI.out.next, HD.out, HG.out, L6⟩
            case measure => simp [intOf]; omega
        · go_wp2_with fail
          go_meet
          exact ⟨P, D, used, was, by omega, ⟨hI.inv, hI.pages, hI.bad, by have := hI.l; omega, hI.len⟩, hdd, hgg, L⟩
      · go_wp2_with fail
        go_meet
        exact ⟨P, D, used, was, by omega, ⟨hI.inv, hI.pages, hI.bad, by have := hI.l; omega, hI.len⟩, hdd, hgg, L⟩
  case rest =>
    clear L3 HC0
    obtain ⟨P, D, used, was, hul, hI, hdd, hgg, L⟩ := hcut
    obtain ⟨au, cu, rfl, hcu, -⟩ := L.ints 2 rfl
    obtain ⟨f, hinv, -⟩ := hI.inv
    obtain ⟨j1, j2⟩ := hI.flip hdd hgg
    have KF := L.pflipT 1 0 2 rfl rfl (by decide) hinv.pw (by have := hI.l; omega) (by rw [hgg]; decide) (-1) 1 none [] 0 0 rfl (by decide) (fun _ => rfl) (BytesAt.nil _ _) au used _ cu rfl (by omega) rfl (by decide) (by decide)
    rw [j1] at KF
    have J2 := Lib.hid j2
    replace KF := Lib.hid KF
    clear j1 j2 hinv hI hdd hgg hf
    generalize (P.flip D (-1) 1 [] used).2.1 = P2 at *
    generalize (P.flip D (-1) 1 [] used).2.2 = D2 at *
    go_wp2_with fail
    refine KF.out.mono ?_
    rintro e w6 ⟨rfl, L6⟩
    replace L6 : Apart w w.heap.size (TS5 w p q D2 P2 (.slice au used.length cu) used u11 was) w6 := L6
    clear KF L
    have H2 := J2.out
    clear J2
    go_wp2_with fail
    go_loopw [17] (fun v17 wr => ∃ (i : Nat) (P : Pgr) (D : Dsk), i ≤ l.length ∧ i ≤ 60 ∧ v17 = .int .i64 (i : Int) ∧ StI 1 i P D used was ∧ Apart w w.heap.size (TS5 w p q D P (.slice au used.length cu) used u11 was) wr) (fun v17 _ => 60 - (intOf v17).toNat)
    case atStart => exact ⟨0, _, _, Nat.zero_le _, Nat.zero_le _, rfl, H2, L6⟩
    case round =>
      clear L6 H2
      obtain ⟨i, P, D, hi, hi60, rfl, hI, L⟩ := hrel
      by_cases hlt : (i : Int) < (l.length : Int)
      · by_cases h60 : (i : Int) < 60
        · obtain ⟨bb, off, rfl, ab, cb, al, cl, q0, q1, q2, q3, q4, r1, r2, r3, r4, r5, r6, r7, -⟩ := ha.here L.bel (k := i) (by omega)
          obtain ⟨f, hinv, -⟩ := hI.inv
          have hwf := hinv.pw
          have hb5 : BytesAt wr ab l[i].b := r1.below L.bel r6
          generalize l[i] = o at *
          have HIi := Lib.hid hI
          clear r1 r3 r6 r7 ha hinv hI q2 q4
          go_upto_if 97 with fail
          go_cut [17] (fun v17 wx => v17 = .int .i64 (i : Int) ∧ ∃ P' D', StI 1 (i + 1) P' D' used was ∧ Apart w w.heap.size (TS5 w p q D' P' (.slice au used.length cu) used u11 was) wx)
          case first =>
            by_cases hk : o.kind < 3
            · have KW := L.pwrite 1 0 rfl rfl (by decide) hwf (by have := HIi.out.l; omega) ab o.b o.b.length cb rfl hb5
              obtain ⟨j1, j2⟩ := HIi.out.write (by decide) o.b
              obtain ⟨⟨n1, why, P2, D2⟩, ho⟩ : ∃ x, P.write D o.b = x := ⟨_, rfl⟩
              rw [ho] at KW j1 j2
              simp only at j1 j2 KW
              have hst : StI 1 (i + 1) P2 D2 used was := by
                by_cases hc : why = 0
                · obtain ⟨e, -, -, e3, -⟩ := j1 hc
                  exact e3
                · obtain ⟨rfl, rfl⟩ := j2 hc
                  exact HIi.out.next
              have HST := Lib.hid hst
              replace KW := Lib.hid KW
              clear j1 j2 ho hst hwf hb5
              go_wp2_with fail
              refine KW.out.mono ?_
              rintro e w6 ⟨rfl, L6⟩
              replace L6 : Apart w w.heap.size (TS5 w p q D2 P2 (.slice au used.length cu) used u11 was) w6 := L6
              go_wp2_with fail
              go_meet
              exact ⟨rfl, P2, D2, HST.out, L6⟩
            · have KR := L.prelease 1 rfl (by have := HIi.out.pages; omega) o.n
              have HST := Lib.hid (HIi.out.release o.n)
              replace KR := Lib.hid KR
              clear hwf hb5
              go_wp2_with fail
              refine KR.out.mono ?_
              rintro e w6 ⟨rfl, L6⟩
              replace L6 : Apart w w.heap.size (TS5 w p q D (P.release o.n) (.slice au used.length cu) used u11 was) w6 := L6
              go_wp2_with fail
              go_meet
              exact ⟨rfl, _, D, HST.out, L6⟩
          case rest =>
            obtain ⟨rfl, P', D', hI', L7⟩ := hcut
            clear L HIi q0 q1 q3 hwf hb5
            generalize wc = w7 at *
            go_wp2_with fail
            go_loopw [18] (fun v18 wx => ∃ k : Nat, k ≤ used.length ∧ v18 = .int .i64 (k : Int) ∧ Apart w w.heap.size (TS5 w p q D' P' (.slice au used.length cu) used u11 was) wx) (fun v18 _ => used.length - (intOf v18).toNat)
            case atStart => exact ⟨0, Nat.zero_le _, rfl, L7⟩
            case round =>
              clear L7
              obtain ⟨k, hk, rfl, L⟩ := hrel
              by_cases hku : (k : Int) < (used.length : Int)
              · have hku' : k < used.length := by omega
                obtain ⟨n, x, n1, n2, n3, n4⟩ := hI'.read k hku'
                obtain ⟨f, hinv, -⟩ := hI'.inv
                obtain ⟨a8, c8, e8, -, hints⟩ := L.ints 2 rfl
                cases e8
                obtain ⟨gu, offu, rfl, hcu2⟩ := hints (by intro e; rw [e] at hku'; exact absurd hku' (Nat.not_lt_zero _))
                have cu2 := hcu2 k hku'
                have hun : used[k] = n := by rw [List.getElem?_eq_getElem hku'] at n1; exact Option.some.inj n1
                rw [hun] at cu2
                have KR := L.preadT 1 0 rfl rfl hinv.pw.fit n
                rw [n3] at KR
                replace KR := Lib.hid KR
                have N2 := Lib.hid n2
                have N4 := Lib.hid n4
                have HI' := Lib.hid hI'
                have HLW := Lib.hid hI'.len
                clear n1 n2 n3 n4 hinv hints hcu2 hun hI' L
                go_wp2_with fail
                refine KR.out.mono ?_
                rintro e w8 ⟨v, rfl, L8⟩
                clear KR cu2
                obtain ⟨av, cv, rfl, hbv, -⟩ := L8.view 4 rfl
                obtain ⟨aw, cw, rfl, hcw, hrow⟩ := L8.vws 3 rfl
                obtain ⟨gw, a9, c9, rfl, x', n5, cw9, hb9⟩ := hrow k (by have := HLW.out; omega)
                have hx' : x' = x := by have := N2.out; rw [n5] at this; exact Option.some.inj this
                subst hx'
                have hkw : (k : Int) < (was.length : Int) := by have := HLW.out; omega
                have SB : ∀ w', Mod (fun _ => False) w8 w' → (convert 22 9 (.slice av x'.length cv)).run Try.prog w' = .ok (.string ⟨x'.toArray⟩) w' := fun w' hm => run_str (hbv.mod hm (fun _ _ _ => id)) _ cv rfl
                have SW : ∀ w', Mod (fun _ => False) w8 w' → (convert 22 9 (.slice a9 x'.length c9)).run Try.prog w' = .ok (.string ⟨x'.toArray⟩) w' := fun w' hm => run_str (hb9.mod hm (fun _ _ _ => id)) _ c9 rfl
                have CW : ∀ w', Mod (fun _ => False) w8 w' → w'.cell? ⟨gw, k, none⟩ = some (.slice a9 x'.length c9) := fun w' hm => hm.cell' cw9 id
                have L9 := (L8.still (Mod.drew _ w8)).take 4
                replace L9 : Apart w w.heap.size (TS5 w p q D' P' (.slice (some ⟨gu, offu, none⟩) used.length cu) used (.slice (some ⟨gw, 0, none⟩) was.length cw) was) w8.drew := L9
                clear hrow n5 cw9 hb9 hbv N2 L8
                go_upto_region 29 with fail
                refine wp_region_held_drew (S := fun w' => Mod (fun _ => False) w8 w') (by kernel_rfl) (Mod.drew _ _) (fun hHeld => ?_)
                refine wpAnyH_take (i := 0) (oi := { dst := some 127, op := Op.move (Operand.tmp 20), type := 32, pos := "law.go:313", after := #[], guard := none }) (v := ?_) rfl (by kernel_rfl) (by kernel_rfl) (by kernel_rfl) (fun _ _ _ h => h) (Or.inl ⟨by rfl, ?_⟩) (by assumption) ?_
                rotate_left
                · (intro w hSw; (try dsimp only at hSw); go_simp; try with_reducible rfl)
                simp only [Act.put, List.setIfInBounds_toArray, List.set_cons_zero, List.set_cons_succ]
                refine wpAnyH_take (i := 1) (oi := { dst := some 128, op := Op.binOp BinOp.neq 32 (Operand.tmp 127) (Operand.const (Value.int IntKind.i64 0)) 32, type := 4, pos := "law.go:313", after := #[{ on := 0, ground := Ground.data }], guard := none }) (v := ?_) rfl (by kernel_rfl) (by kernel_rfl) (by kernel_rfl) (fun _ _ _ h => h) (Or.inl ⟨by rfl, ?_⟩) (by assumption) ?_
                rotate_left
                · (intro w hSw; (try dsimp only at hSw); go_simp; try with_reducible rfl)
                simp only [Act.put, List.setIfInBounds_toArray, List.set_cons_zero, List.set_cons_succ]
                refine wpAnyH_take (i := 2) (oi := { dst := some 129, op := Op.move (Operand.tmp 128), type := 4, pos := "law.go:313", after := #[{ on := 1, ground := Ground.data }], guard := none }) (v := ?_) rfl (by kernel_rfl) (by kernel_rfl) (by kernel_rfl) (fun _ _ _ h => h) (Or.inl ⟨by rfl, ?_⟩) (by assumption) ?_
                rotate_left
                · (intro w hSw; (try dsimp only at hSw); go_simp; try with_reducible rfl)
                simp only [Act.put, List.setIfInBounds_toArray, List.set_cons_zero, List.set_cons_succ]
                refine wpAnyH_take (i := 3) (oi := { dst := some 130, op := Op.move (Operand.tmp 19), type := 22, pos := "law.go:313", after := #[{ on := 2, ground := Ground.guard }], guard := some (2, false) }) (v := ?_) rfl (by kernel_rfl) (by kernel_rfl) (by kernel_rfl) (fun _ _ _ h => h) (Or.inl ⟨by rfl, ?_⟩) (by assumption) ?_
                rotate_left
                · (intro w hSw; (try dsimp only at hSw); go_simp; try with_reducible rfl)
                simp only [Act.put, List.setIfInBounds_toArray, List.set_cons_zero, List.set_cons_succ]
                refine wpAnyH_take (i := 4) (oi := { dst := some 131, op := Op.convert 22 9 (Operand.tmp 130), type := 9, pos := "law.go:313", after := #[{ on := 3, ground := Ground.data }, { on := 2, ground := Ground.guard }], guard := some (2, false) }) (v := ?_) rfl (by kernel_rfl) (by kernel_rfl) (by kernel_rfl) (fun _ _ _ h => h) (Or.inl ⟨by rfl, ?_⟩) (by assumption) ?_
                rotate_left
                · (intro w hSw; (try dsimp only at hSw); go_simp; try with_reducible rfl)
                simp only [Act.put, List.setIfInBounds_toArray, List.set_cons_zero, List.set_cons_succ]
                refine wpAnyH_take (i := 5) (oi := { dst := some 132, op := Op.move (Operand.tmp 11), type := 66, pos := "law.go:313", after := #[{ on := 2, ground := Ground.guard }], guard := some (2, false) }) (v := ?_) rfl (by kernel_rfl) (by kernel_rfl) (by kernel_rfl) (fun _ _ _ h => h) (Or.inl ⟨by rfl, ?_⟩) (by assumption) ?_
                rotate_left
                · (intro w hSw; (try dsimp only at hSw); go_simp; try with_reducible rfl)
                simp only [Act.put, List.setIfInBounds_toArray, List.set_cons_zero, List.set_cons_succ]
                refine wpAnyH_take (i := 6) (oi := { dst := some 133, op := Op.move (Operand.tmp 18), type := 3, pos := "law.go:313", after := #[{ on := 2, ground := Ground.guard }], guard := some (2, false) }) (v := ?_) rfl (by kernel_rfl) (by kernel_rfl) (by kernel_rfl) (fun _ _ _ h => h) (Or.inl ⟨by rfl, ?_⟩) (by assumption) ?_
                rotate_left
                · (intro w hSw; (try dsimp only at hSw); go_simp; try with_reducible rfl)
                simp only [Act.put, List.setIfInBounds_toArray, List.set_cons_zero, List.set_cons_succ]
                refine wpAnyH_take (i := 7) (oi := { dst := some 134, op := Op.indexAddr 66 (Operand.tmp 132) (Operand.tmp 133), type := 0, pos := "law.go:313", after := #[{ on := 5, ground := Ground.data }, { on := 6, ground := Ground.data }, { on := 2, ground := Ground.guard }], guard := some (2, false) }) (v := ?_) rfl (by kernel_rfl) (by kernel_rfl) (by kernel_rfl) (fun _ _ _ h => h) (Or.inl ⟨by rfl, ?_⟩) (by assumption) ?_
                rotate_left
                · (intro w hSw; (try dsimp only at hSw); go_simp; try with_reducible rfl)
                simp only [Act.put, List.setIfInBounds_toArray, List.set_cons_zero, List.set_cons_succ]
                refine wpAnyH_take (i := 8) (oi := { dst := some 135, op := Op.load 22 (Operand.tmp 134), type := 22, pos := "law.go:313", after := #[{ on := 7, ground := Ground.data }, { on := 2, ground := Ground.guard }], guard := some (2, false) }) (v := ?_) rfl (by kernel_rfl) (by kernel_rfl) (by kernel_rfl) (fun _ _ _ h => h) (Or.inl ⟨by rfl, ?_⟩) (by assumption) ?_
                rotate_left
                · (intro w hSw; (try dsimp only at hSw); go_simp; try with_reducible rfl)
                simp only [Act.put, List.setIfInBounds_toArray, List.set_cons_zero, List.set_cons_succ]
                refine wpAnyH_take (i := 9) (oi := { dst := some 136, op := Op.convert 22 9 (Operand.tmp 135), type := 9, pos := "law.go:313", after := #[{ on := 8, ground := Ground.data }, { on := 2, ground := Ground.guard }], guard := some (2, false) }) (v := ?_) rfl (by kernel_rfl) (by kernel_rfl) (by kernel_rfl) (fun _ _ _ h => h) (Or.inl ⟨by rfl, ?_⟩) (by assumption) ?_
                rotate_left
                · (intro w hSw; (try dsimp only at hSw); go_simp; try with_reducible rfl)
                simp only [Act.put, List.setIfInBounds_toArray, List.set_cons_zero, List.set_cons_succ]
                refine wpAnyH_take (i := 10) (oi := { dst := some 137, op := Op.binOp BinOp.neq 9 (Operand.tmp 131) (Operand.tmp 136) 9, type := 4, pos := "law.go:313", after := #[{ on := 4, ground := Ground.data }, { on := 9, ground := Ground.data }, { on := 2, ground := Ground.guard }], guard := some (2, false) }) (v := ?_) rfl (by kernel_rfl) (by kernel_rfl) (by kernel_rfl) (fun _ _ _ h => h) (Or.inl ⟨by rfl, ?_⟩) (by assumption) ?_
                rotate_left
                · (intro w hSw; (try dsimp only at hSw); go_simp; try with_reducible rfl)
                simp only [Act.put, List.setIfInBounds_toArray, List.set_cons_zero, List.set_cons_succ]
                refine wpAnyH_take (i := 11) (oi := { dst := some 138, op := Op.pick (Operand.tmp 129) (Operand.const (Value.bool true)) (Operand.tmp 137), type := 4, pos := "law.go:313", after := #[{ on := 2, ground := Ground.data }, { on := 10, ground := Ground.data }], guard := none }) (v := ?_) rfl (by kernel_rfl) (by kernel_rfl) (by kernel_rfl) (fun _ _ _ h => h) (Or.inl ⟨by rfl, ?_⟩) (by assumption) ?_
                rotate_left
                · (intro w hSw; (try dsimp only at hSw); go_simp; try with_reducible rfl)
                simp only [Act.put, List.setIfInBounds_toArray, List.set_cons_zero, List.set_cons_succ]
                refine wpAnyH_done (by kernel_rfl) ?_ _
                go_wp2_with fail
                go_roundw
                case rel => exact ⟨k + 1, by omega, by go_num, L9⟩
                case measure => simp [intOf]; omega

              · have HI' := Lib.hid hI'
                clear hI'
                go_wp2_with fail
                go_roundw
                case rel => exact ⟨i + 1, P', D', by omega, by omega, by go_num, HI'.out, L⟩
                case measure => simp [intOf]; omega
        · go_wp2_with fail
          refine L.known5.mono ?_
          rintro e w5 ⟨rfl, L5⟩
          have hb := L5.bel
          go_wp2
          go_ret
          exact ⟨rfl, hb⟩
      · go_wp2_with fail
        refine L.known5.mono ?_
        rintro e w5 ⟨rfl, L5⟩
        have hb := L5.bel
        go_wp2
        go_ret
        exact ⟨rfl, hb⟩

theorem steady_all (W : World) {v0 : Value} {l0 : List (List UInt8)} (o0 : RdBs W v0 l0) {v1 : Value} {l1 : List OpW} (o1 : RdO5 W v1 l1) : Calls Try.prog 20 #[v0, v1] W fun e W' => e = .returned (.bool true) ∧ Below W.heap.size W W' := by
  obtain ⟨af, capf, rfl, hf, -, -⟩ := o0
  obtain ⟨a, cap, rfl, h, -⟩ := o1
  exact steady_walk af l0 capf a l1 cap W hf h
end Go.Proofs.Ytdinnkacilgmmaa
