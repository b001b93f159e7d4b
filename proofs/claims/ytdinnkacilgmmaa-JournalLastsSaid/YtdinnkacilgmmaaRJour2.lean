/- The reference's at and record. -/
import Derived.Test.YtdinnkacilgmmaaRJour1
import Derived.Test.YtdinnkacilgmmaaJPlZ
namespace Go.Proofs.Ytdinnkacilgmmaa
open Go.RowKit

set_option maxHeartbeats 2000000 in
set_option maxRecDepth 100000 in
theorem rat_any {w : World} {B q p : Nat} {J : Jr} {D : Dsk} {F : Nat → Prop} (hj : RJAt w q p J) (hd : RDiskAt w B p D F) (s : Nat) (hs1 : 1 ≤ s) (hs2 : s ≤ 2305843009213693952) (hf : J.frm ≤ 4096) (hz1 : 1 ≤ J.size) (hz2 : J.size ≤ 4096) (hpl : J.place s < D.N) (hlim : D.l.length ≤ 1048576) :
    Calls Try.prog 126 #[.pointer (some ⟨q, 0, none⟩), .int .i64 (s : Int)] w fun e w' => RAtSaid (J.rd D s) e w' ∧ Mod (fun _ => False) w w' := by
  obtain ⟨c0, -⟩ := hj.cell
  have hwr : D.wrong (J.place s : Int) = 0 := by unfold Dsk.wrong; rw [if_neg (by omega)]
  have KP : ∀ w', Mod (fun _ => False) w w' → Calls Try.prog 127 #[.pointer (some ⟨q, 0, none⟩), .int .i64 (s : Int)] w' fun e w'' => e = .returned (.int .i64 (J.place s : Int)) ∧ Mod (fun _ => False) w w'' := fun w' hm => (rplace_any (hj.mod hm id) s hs1 hs2 hf hz1 hz2).mono fun e w'' ⟨he, hm'⟩ => ⟨he, hm.trans' hm'⟩
  have KR : ∀ w', Mod (fun _ => False) w w' → Calls Try.prog 94 #[.pointer (some ⟨p, 0, none⟩), .int .i64 (J.place s : Int)] w' fun e w'' => ∃ v, e = .returned (.tuple #[v, .int .i64 0]) ∧ OwnB w'' w.heap.size v (sector D.now (J.place s)) ∧ Mod (fun _ => False) w w'' := fun w' hm => ((hd.mod hm (fun _ _ => id)).read (J.place s : Int) w.heap.size hm.size hlim).mono fun e w'' ⟨v, he, ho, hm', hn⟩ => ⟨v, by rw [he, hwr], by rw [if_pos hwr, Int.toNat_natCast] at ho; exact ho, hm.trans' hm'⟩
  have hsl : (sector D.now (J.place s)).length = 256 := sector_length _ _ _ (by rw [hd.wf.now]; exact Nat.le_of_eq hd.wf.len.symm) hpl
  replace KP := Lib.hid KP
  replace KR := Lib.hid KR
  have HSL := Lib.hid hsl
  unfold Jr.rd
  clear hwr hsl hd
  generalize sector D.now (J.place s) = b at *
  go_enter Try.func126, Try.ntmps126
  go_upto_region 1 with fail
  go_cut [7, 8] (fun v7 v8 wx => ∃ g cap, v7 = .slice (some ⟨g, 0, none⟩) 256 cap ∧ v8 = .int .i64 0 ∧ OwnB wx w.heap.size (.slice (some ⟨g, 0, none⟩) 256 cap) b ∧ Mod (fun _ => False) w wx ∧ 256 ≤ cap)
  case first =>
    have md : Mod (fun _ => False) w w.drew := Mod.drew _ _
    go_region_held3 (fun w' => w'.cell? ⟨q, 0, none⟩ = some (.pointer (some ⟨p, 0, none⟩))) (first | (show _ = _; simpa using c0) | exact hma.cell' c0 id | exact hmb.cell' c0 id)
      (first
        | (go_at_call 127; refine (KP.out _ md).mono ?_; rintro e wa ⟨rfl, hma⟩)
        | (go_at_call 94; refine (KR.out _ (by assumption)).mono ?_; rintro e wb ⟨v, rfl, hob, hmb⟩))
    go_wp2_with fail
    go_meet
    obtain ⟨g, cap, _, ev, -, -, hle, -⟩ := hob.row (by intro e; have := HSL.out; rw [e] at this; cases this)
    rw [HSL.out] at ev hle
    subst ev
    exact ⟨g, cap, rfl, rfl, hob, hmb, hle⟩
  case rest =>
    obtain ⟨g, cap, rfl, rfl, hob, hm, hcap⟩ := hcut
    go_wp2_with fail
    refine (rright_any hob HSL.out hcap s hs2).mono ?_
    rintro e w2 ⟨hr, hm2⟩
    rcases hr with ⟨h1, rfl⟩ | ⟨f, pc, g2, cap2, h1, rfl, h3⟩
    · go_wp2
      go_ret3
      exact ⟨.inl ⟨h1, rfl⟩, hm.trans' hm2⟩
    · go_wp2
      go_ret3
      exact ⟨.inr ⟨f, pc, g2, cap2, h1, rfl, h3⟩, hm.trans' hm2⟩

/-- what the reference's record answers -/
def RRecSaid (o : Option (List UInt8 × Nat)) (s H : Nat) (e : Ending) (w' : World) : Prop :=
  (o = none ∧ e = .returned (.tuple #[.slice none 0 0, .int .i64 0, .bool false])) ∨
  ∃ b n g off cap, o = some (b, n) ∧ e = .returned (.tuple #[.slice (some ⟨g, off, none⟩) b.length cap, .int .i64 ((s : Int) + (n : Int)), .bool true]) ∧ BytesAt w' (some ⟨g, off, none⟩) b ∧ (∃ C fz, w'.heap[g]? = some (.cells C 5 fz)) ∧ H ≤ g

theorem tmod2_u8 (f : UInt8) (h : f.toNat ≤ 3) : (((f.toNat : Int) % 2) == 1) = decide (f.toNat % 2 = 1) := by
  have : f.toNat = 0 ∨ f.toNat = 1 ∨ f.toNat = 2 ∨ f.toNat = 3 := by omega
  rcases this with e | e | e | e <;> rw [e] <;> decide

set_option maxHeartbeats 16000000 in
set_option maxRecDepth 100000 in
theorem rrecord_any {w : World} {B q p : Nat} {J : Jr} {D : Dsk} {F : Nat → Prop} (hj : RJAt w q p J) (hd : RDiskAt w B p D F) (s : Nat) (hs1 : 1 ≤ s) (hs2 : J.start + J.size ≤ 2305843009213693952) (hs3 : s ≤ J.start + J.size) (hz1 : 1 ≤ J.size) (hz4 : J.start ≤ s) (hfit : J.frm + J.size ≤ D.N) (hlim : D.l.length ≤ 1048576) :
    Calls Try.prog 125 #[.pointer (some ⟨q, 0, none⟩), .int .i64 (s : Int)] w fun e w' => RRecSaid (J.rec_ D s) s w.heap.size e w' ∧ Mod (fun _ => False) w w' := by
  obtain ⟨-, -, c2, c3, -, -⟩ := hj.cell
  have htop := hd.wf.top
  have hz2 : J.size ≤ 4096 := by omega
  have hf : J.frm ≤ 4096 := by omega
  have KA : ∀ k w', k < J.start + J.size → 1 ≤ k → Mod (fun _ => False) w w' → Calls Try.prog 126 #[.pointer (some ⟨q, 0, none⟩), .int .i64 (k : Int)] w' fun e w'' => RAtSaid (J.rd D k) e w'' ∧ Mod (fun _ => False) w' w'' := fun k w' h1 h2 hm =>
    rat_any (hj.mod hm id) (hd.mod hm (fun _ _ => id)) k h2 (by omega) hf hz1 hz2 (place_lt J hz1 hfit k) hlim
  have KRP : ∀ k f pc, J.rd D k = some (f, pc) → pc.length ≤ 242 ∧ f.toNat ≤ 3 := fun k f pc h => right_piece h
  unfold Jr.rec_
  obtain ⟨fu, hfu⟩ : ∃ fu, fu = J.start + J.size - s := ⟨_, rfl⟩
  rw [← hfu]
  have hfu' : s + fu = J.start + J.size := by omega
  have hfb : fu ≤ 4096 := by omega
  obtain ⟨O, hO⟩ : ∃ O, O = recGo (J.rd D) s fu 0 [] := ⟨_, rfl⟩
  rw [← hO]
  replace KA := Lib.hid KA
  replace KRP := Lib.hid KRP
  have HO := Lib.hid hO
  clear hfu hO hd hj
  have hstI : (s : Int) + (fu : Int) = (J.start : Int) + (J.size : Int) := by omega
  have hI0 : (J.start : Int) + (J.size : Int) ≤ 2305843009213693952 := by omega
  have HST := Lib.hid hstI
  have HFU := Lib.hid hfu'
  clear hstI hfu'
  go_enter Try.func125, Try.ntmps125
  go_wp2_with fail
  go_loopw [7, 8] (fun v7 v8 wr => ∃ (n : Nat) (all : List UInt8), n ≤ fu ∧ v8 = .int .i64 ((s : Int) + (n : Int)) ∧ OwnB wr w.heap.size v7 all ∧ Mod (fun _ => False) w wr ∧ all.length ≤ 242 * n ∧ recGo (J.rd D) s (fu - n) n all = O) (fun _ v8 _ => s + fu - (intOf v8).toNat)
  case atStart => exact ⟨0, [], Nat.zero_le _, by simp, OwnB.nil _ _, Mod.refl _ _, by simp, HO.out.symm⟩
  case round =>
    obtain ⟨n, all, hn, rfl, ho, hm, hal, hgo⟩ := hrel
    have d2 := hm.cell' c2 id
    have d3 := hm.cell' c3 id
    have HGO := Lib.hid hgo
    clear hgo
    have w2 : IntKind.i64.wrap ((J.start : Int) + (J.size : Int)) = (J.start : Int) + (J.size : Int) := IntWalk.i64_in _ (by omega)
    go_upto_region 3 with fail
    go_cut [23] (fun v23 wx => v23 = .bool (decide (n < fu)) ∧ wx = wr.drew)
    case first =>
      go_region_held3 (fun w' => w'.cell? ⟨q, 2, none⟩ = some (.int .i64 (J.size : Int)) ∧ w'.cell? ⟨q, 3, none⟩ = some (.int .i64 (J.start : Int))) (refine ⟨?_, ?_⟩ <;> simpa using (by assumption)) (fail)
      clear w2
      go_wp2_with fail
      go_meet
      exact ⟨congrArg Value.bool (decide_eq_decide.2 (by have := HST.out; omega)), rfl⟩
    case rest =>
      obtain ⟨rfl, rfl⟩ := hcut
      clear w2 d2 d3
      have md : Mod (fun _ => False) wr wr.drew := Mod.drew _ _
      have hmd := hm.trans' md
      have hod := ho.mod md (fun _ _ => id)
      clear ho hm md
      generalize wr.drew = w2 at *
      by_cases hlt : n < fu
      · have hdt : decide (n < fu) = true := by simpa using hlt
        rw [hdt]
        obtain ⟨r, hr⟩ : ∃ r, fu - n = r + 1 := ⟨fu - n - 1, by omega⟩
        have hr2 : fu - (n + 1) = r := by omega
        have hgo := HGO.out
        rw [hr] at hgo
        simp only [recGo] at hgo
        have hkt : s + n < J.start + J.size := by have := HFU.out; omega
        have hcast : (s : Int) + (n : Int) = ((s + n : Nat) : Int) := by omega
        have KA' := KA.out (s + n) w2 hkt (by omega) hmd
        have KRP' := KRP.out (s + n)
        rw [show ((s + n : Nat) : Int) = (s : Int) + (n : Int) from hcast.symm] at KA'
        generalize J.rd D (s + n) = oa at *
        have HR2 := Lib.hid hr2
        have HGO2 := Lib.hid hgo
        have HHO := Lib.hid hod
        have KRP2 := Lib.hid KRP'
        have hsn : (s : Int) + (n : Int) ≤ 2305843009213693952 := by omega
        clear hgo hr hr2 hdt KRP' hcast HGO hod
        go_wp2_with fail
        refine KA'.mono ?_
        rintro e w3 ⟨hat, hm3⟩
        clear KA'
        rcases hat with ⟨rfl, rfl⟩ | ⟨f, pc, g, cg, rfl, rfl, hbp⟩
        · have hON : O = none := HGO2.out.symm
          have HON := Lib.hid hON
          clear hON
          go_wp2
          go_ret3
          exact ⟨.inl ⟨HON.out, rfl⟩, hmd.trans' hm3⟩
        · obtain ⟨hpl, hf3⟩ := KRP2.out f pc rfl
          have b1 := tmod2_u8 f hf3
          have hgo := HGO2.out
          simp only [] at hgo
          have HG3 := Lib.hid hgo
          have hnz : ((s : Int) + (n : Int) == (s : Int)) = decide (n = 0) := by
            by_cases h : n = 0
            · subst h; simp
            · rw [decide_eq_false h, beq_eq_false_iff_ne]; omega
          clear hgo HGO2 KRP2
          go_upto_region 6 with fail
          go_cut [43] (fun v43 wx => v43 = .bool (decide (f.toNat % 2 = 1) != decide (n = 0)) ∧ w3 = wx)
          case first =>
            generalize decide (f.toNat % 2 = 1) = d1 at *
            generalize decide (n = 0) = d2 at *
            go_wp2_with fail
            go_meet
            exact ⟨by first | rfl | (rw [b1]; cases d1 <;> cases d2 <;> rfl) | (cases d1 <;> cases d2 <;> rfl), rfl⟩
          case rest =>
            obtain ⟨rfl, rfl⟩ := hcut
            have ho3 := HHO.out.mod hm3 (fun _ _ => id)
            have hw3 := hmd.trans' hm3
            have hHO3 := Lib.hid ho3
            clear HHO hmd hm3 b1 hnz
            cases hmm : (decide (f.toNat % 2 = 1) != decide (n = 0))
            · have hg4 := HG3.out
              rw [hmm, if_neg (by decide)] at hg4
              have HG4 := Lib.hid hg4
              clear HG3 hmm hg4
              have hall : all.length + pc.length ≤ 242 * (n + 1) := by omega
              have hle3 : w.heap.size ≤ w3.heap.size := hw3.size
              clear ho3
              by_cases hf2 : f.toNat < 2
              · have hf2' : ¬ (2 : Int) ≤ (f.toNat : Int) := by omega
                have hg5 := HG4.out
                rw [if_pos hf2] at hg5
                have HG5 := Lib.hid hg5
                clear hg5 HG4
                go_wp2_with (first
                  | (at_builtin; refine appB rfl _ _ rfl w.heap.size _ all rfl hHO3.out (some ⟨g, 14, none⟩) _ _ pc rfl rfl (fun e => by cases e) hbp (by omega) hle3 ?_; intro v4 w4 ho4 hm4 _))
                have hw4 : Mod (fun _ => False) w w4 := hw3.trans hm4 (fun k hk e => by have := (World.ownsRow.lt hHO3.out k e.symm).1; omega)
                obtain ⟨a4, c4, e4, hlc, -, -⟩ := ho4.shape
                have hALL := hall
                rw [← List.length_append] at hALL
                generalize all ++ pc = al at *
                subst e4
                have HO4 := Lib.hid ho4
                clear ho4 hm4 hw3 hbp hHO3 hall
                go_roundw
                case rel => exact ⟨n + 1, al, by omega, by go_num, HO4.out, hw4, hALL, by rw [HR2.out]; exact HG5.out⟩
                case measure => simp [intOf]; omega
              · have hf2' : (2 : Int) ≤ (f.toNat : Int) := by omega
                have hg5 := HG4.out
                rw [if_neg hf2] at hg5
                have HG5 := Lib.hid hg5
                clear hg5 HG4
                go_wp2_with (first
                  | (at_builtin; refine appB rfl _ _ rfl w.heap.size _ all rfl hHO3.out (some ⟨g, 14, none⟩) _ _ pc rfl rfl (fun e => by cases e) hbp (by omega) hle3 ?_; intro v4 w4 ho4 hm4 _))
                have hw4 : Mod (fun _ => False) w w4 := hw3.trans hm4 (fun k hk e => by have := (World.ownsRow.lt hHO3.out k e.symm).1; omega)
                obtain ⟨a4, c4, e4, hlc, -, -⟩ := ho4.shape
                have hALL := hall
                rw [← List.length_append] at hALL
                generalize all ++ pc = al at *
                subst e4
                have HO4 := Lib.hid ho4
                clear ho4 hm4 hw3 hbp hHO3 hall
                go_upto_region 10 with fail
                have md4 : Mod (fun _ => False) w4 w4.drew := Mod.drew _ _
                obtain ⟨A, hA⟩ : ∃ A, A = unle (al.take 4) := ⟨_, rfl⟩
                obtain ⟨X, hX⟩ : ∃ X, X = (crc (al.drop 4)).toNat := ⟨_, rfl⟩
                have hXl : X < 4294967296 := by rw [hX]; exact (crc (al.drop 4)).isLt
                rw [← hA, ← hX] at HG5
                have HA := Lib.hid hA
                have HX := Lib.hid hX
                clear hA hX
                obtain ⟨L, hL⟩ : ∃ L, L = al.length := ⟨_, rfl⟩
                rw [← hL] at HG5 hALL hlc ⊢
                have HL := Lib.hid hL
                have HO5 := HO4.out
                rw [← hL] at HO5
                replace HO5 := Lib.hid HO5
                clear hL HO4
                go_cut [67] (fun v67 wx => v67 = .bool (!decide (4 ≤ L ∧ L ≤ 8196 ∧ A = X)) ∧ Mod (fun _ => False) w4 wx)
                case first =>
                  by_cases l1 : (L : Int) < 4
                  · have hg : (!decide (4 ≤ L ∧ L ≤ 8196 ∧ A = X)) = true := by rw [decide_eq_false (by omega)]; rfl
                    have HG4 := Lib.hid hg
                    clear hg
                    refine wp_region_held_drew (S := fun w' => Mod (fun _ => False) w4 w') (by kernel_rfl) (md4) (fun hHeld => ?_)
                    refine wpAnyH_take (i := 0) (oi := { dst := some 49, op := Op.move (Operand.tmp 7), type := 22, pos := "ref.go:80", after := #[], guard := none }) (v := ?_) rfl (by kernel_rfl) (by kernel_rfl) (by kernel_rfl) (fun _ _ _ h => h) (Or.inl ⟨by rfl, ?_⟩) (by assumption) ?_
                    rotate_left
                    · (intro w hSw; (try dsimp only at hSw); go_simp; try with_reducible rfl)
                    simp only [Act.put, List.setIfInBounds_toArray, List.set_cons_zero, List.set_cons_succ]
                    refine wpAnyH_take (i := 1) (oi := { dst := some 50, op := Op.call { callee := Callee.builtin Builtin.len, args := #[Operand.tmp 49], argTypes := #[22] }, type := 3, pos := "ref.go:80", after := #[{ on := 0, ground := Ground.data }], guard := none }) (v := ?_) rfl (by kernel_rfl) (by kernel_rfl) (by kernel_rfl) (fun _ _ _ h => h) (Or.inl ⟨by rfl, ?_⟩) (by assumption) ?_
                    rotate_left
                    · (intro w hSw; (try dsimp only at hSw); go_simp; try with_reducible rfl)
                    simp only [Act.put, List.setIfInBounds_toArray, List.set_cons_zero, List.set_cons_succ]
                    refine wpAnyH_take (i := 2) (oi := { dst := some 51, op := Op.binOp BinOp.lss 3 (Operand.tmp 50) (Operand.const (Value.int IntKind.i64 4)) 3, type := 4, pos := "ref.go:80", after := #[{ on := 1, ground := Ground.data }], guard := none }) (v := ?_) rfl (by kernel_rfl) (by kernel_rfl) (by kernel_rfl) (fun _ _ _ h => h) (Or.inl ⟨by rfl, ?_⟩) (by assumption) ?_
                    rotate_left
                    · (intro w hSw; (try dsimp only at hSw); go_simp; try with_reducible rfl)
                    simp only [Act.put, List.setIfInBounds_toArray, List.set_cons_zero, List.set_cons_succ]
                    refine wpAnyH_take (i := 3) (oi := { dst := some 52, op := Op.move (Operand.tmp 51), type := 4, pos := "ref.go:80", after := #[{ on := 2, ground := Ground.data }], guard := none }) (v := ?_) rfl (by kernel_rfl) (by kernel_rfl) (by kernel_rfl) (fun _ _ _ h => h) (Or.inl ⟨by rfl, ?_⟩) (by assumption) ?_
                    rotate_left
                    · (intro w hSw; (try dsimp only at hSw); go_simp; try with_reducible rfl)
                    simp only [Act.put, List.setIfInBounds_toArray, List.set_cons_zero, List.set_cons_succ]
                    refine wpAnyH_take (i := 4) (oi := { dst := some 53, op := Op.move (Operand.tmp 7), type := 22, pos := "ref.go:80", after := #[{ on := 3, ground := Ground.guard }], guard := some (3, false) }) (v := undef) rfl (by kernel_rfl) (by kernel_rfl) (by kernel_rfl) (fun _ _ _ h => h) (Or.inr ⟨by rfl, rfl⟩) (by assumption) ?_
                    simp only [Act.put, List.setIfInBounds_toArray, List.set_cons_zero, List.set_cons_succ]
                    refine wpAnyH_take (i := 5) (oi := { dst := some 54, op := Op.call { callee := Callee.builtin Builtin.len, args := #[Operand.tmp 53], argTypes := #[22] }, type := 3, pos := "ref.go:80", after := #[{ on := 4, ground := Ground.data }, { on := 3, ground := Ground.guard }], guard := some (3, false) }) (v := undef) rfl (by kernel_rfl) (by kernel_rfl) (by kernel_rfl) (fun _ _ _ h => h) (Or.inr ⟨by rfl, rfl⟩) (by assumption) ?_
                    simp only [Act.put, List.setIfInBounds_toArray, List.set_cons_zero, List.set_cons_succ]
                    refine wpAnyH_take (i := 6) (oi := { dst := some 55, op := Op.binOp BinOp.sub 3 (Operand.tmp 54) (Operand.const (Value.int IntKind.i64 4)) 3, type := 3, pos := "ref.go:80", after := #[{ on := 5, ground := Ground.data }, { on := 3, ground := Ground.guard }], guard := some (3, false) }) (v := undef) rfl (by kernel_rfl) (by kernel_rfl) (by kernel_rfl) (fun _ _ _ h => h) (Or.inr ⟨by rfl, rfl⟩) (by assumption) ?_
                    simp only [Act.put, List.setIfInBounds_toArray, List.set_cons_zero, List.set_cons_succ]
                    refine wpAnyH_take (i := 7) (oi := { dst := some 56, op := Op.binOp BinOp.gtr 3 (Operand.tmp 55) (Operand.const (Value.int IntKind.i64 8192)) 3, type := 4, pos := "ref.go:80", after := #[{ on := 6, ground := Ground.data }, { on := 3, ground := Ground.guard }], guard := some (3, false) }) (v := undef) rfl (by kernel_rfl) (by kernel_rfl) (by kernel_rfl) (fun _ _ _ h => h) (Or.inr ⟨by rfl, rfl⟩) (by assumption) ?_
                    simp only [Act.put, List.setIfInBounds_toArray, List.set_cons_zero, List.set_cons_succ]
                    refine wpAnyH_take (i := 8) (oi := { dst := some 57, op := Op.pick (Operand.tmp 52) (Operand.const (Value.bool true)) (Operand.tmp 56), type := 4, pos := "ref.go:80", after := #[{ on := 3, ground := Ground.data }, { on := 7, ground := Ground.data }], guard := none }) (v := ?_) rfl (by kernel_rfl) (by kernel_rfl) (by kernel_rfl) (fun _ _ _ h => h) (Or.inl ⟨by rfl, ?_⟩) (by assumption) ?_
                    rotate_left
                    · (intro w hSw; (try dsimp only at hSw); go_simp; try with_reducible rfl)
                    simp only [Act.put, List.setIfInBounds_toArray, List.set_cons_zero, List.set_cons_succ]
                    refine wpAnyH_take (i := 9) (oi := { dst := some 58, op := Op.move (Operand.tmp 57), type := 4, pos := "ref.go:80", after := #[{ on := 8, ground := Ground.data }, { on := 3, ground := Ground.chain }], guard := none }) (v := ?_) rfl (by kernel_rfl) (by kernel_rfl) (by kernel_rfl) (fun _ _ _ h => h) (Or.inl ⟨by rfl, ?_⟩) (by assumption) ?_
                    rotate_left
                    · (intro w hSw; (try dsimp only at hSw); go_simp; try with_reducible rfl)
                    simp only [Act.put, List.setIfInBounds_toArray, List.set_cons_zero, List.set_cons_succ]
                    refine wpAnyH_take (i := 10) (oi := { dst := some 59, op := Op.move (Operand.tmp 7), type := 22, pos := "ref.go:80", after := #[{ on := 9, ground := Ground.guard }], guard := some (9, false) }) (v := undef) rfl (by kernel_rfl) (by kernel_rfl) (by kernel_rfl) (fun _ _ _ h => h) (Or.inr ⟨by rfl, rfl⟩) (by assumption) ?_
                    simp only [Act.put, List.setIfInBounds_toArray, List.set_cons_zero, List.set_cons_succ]
                    refine wpAnyH_take (i := 11) (oi := { dst := some 60, op := Op.slice 22 (Operand.tmp 59) none (some (Operand.const (Value.int IntKind.i64 4))) none, type := 22, pos := "ref.go:80", after := #[{ on := 10, ground := Ground.data }, { on := 9, ground := Ground.guard }], guard := some (9, false) }) (v := undef) rfl (by kernel_rfl) (by kernel_rfl) (by kernel_rfl) (fun _ _ _ h => h) (Or.inr ⟨by rfl, rfl⟩) (by assumption) ?_
                    simp only [Act.put, List.setIfInBounds_toArray, List.set_cons_zero, List.set_cons_succ]
                    refine wpAnyH_take (i := 12) (oi := { dst := some 61, op := Op.call { callee := Callee.value (Operand.func 139), args := #[Operand.tmp 60], argTypes := #[22] }, type := 142, pos := "ref.go:80", after := #[{ on := 11, ground := Ground.data }, { on := 9, ground := Ground.chain }, { on := 9, ground := Ground.guard }], guard := some (9, false) }) (v := undef) rfl (by kernel_rfl) (by kernel_rfl) (by kernel_rfl) (fun _ _ _ h => h) (Or.inr ⟨by rfl, rfl⟩) (by assumption) ?_
                    simp only [Act.put, List.setIfInBounds_toArray, List.set_cons_zero, List.set_cons_succ]
                    refine wpAnyH_take (i := 13) (oi := { dst := some 62, op := Op.move (Operand.tmp 7), type := 22, pos := "ref.go:80", after := #[{ on := 9, ground := Ground.guard }], guard := some (9, false) }) (v := undef) rfl (by kernel_rfl) (by kernel_rfl) (by kernel_rfl) (fun _ _ _ h => h) (Or.inr ⟨by rfl, rfl⟩) (by assumption) ?_
                    simp only [Act.put, List.setIfInBounds_toArray, List.set_cons_zero, List.set_cons_succ]
                    refine wpAnyH_take (i := 14) (oi := { dst := some 63, op := Op.slice 22 (Operand.tmp 62) (some (Operand.const (Value.int IntKind.i64 4))) none none, type := 22, pos := "ref.go:80", after := #[{ on := 13, ground := Ground.data }, { on := 9, ground := Ground.guard }], guard := some (9, false) }) (v := undef) rfl (by kernel_rfl) (by kernel_rfl) (by kernel_rfl) (fun _ _ _ h => h) (Or.inr ⟨by rfl, rfl⟩) (by assumption) ?_
                    simp only [Act.put, List.setIfInBounds_toArray, List.set_cons_zero, List.set_cons_succ]
                    refine wpAnyH_take (i := 15) (oi := { dst := some 64, op := Op.call { callee := Callee.value (Operand.func 138), args := #[Operand.tmp 63], argTypes := #[22] }, type := 23, pos := "ref.go:80", after := #[{ on := 14, ground := Ground.data }, { on := 12, ground := Ground.chain }, { on := 9, ground := Ground.guard }], guard := some (9, false) }) (v := undef) rfl (by kernel_rfl) (by kernel_rfl) (by kernel_rfl) (fun _ _ _ h => h) (Or.inr ⟨by rfl, rfl⟩) (by assumption) ?_
                    simp only [Act.put, List.setIfInBounds_toArray, List.set_cons_zero, List.set_cons_succ]
                    refine wpAnyH_take (i := 16) (oi := { dst := some 65, op := Op.convert 23 142 (Operand.tmp 64), type := 142, pos := "ref.go:80", after := #[{ on := 15, ground := Ground.data }, { on := 9, ground := Ground.guard }], guard := some (9, false) }) (v := undef) rfl (by kernel_rfl) (by kernel_rfl) (by kernel_rfl) (fun _ _ _ h => h) (Or.inr ⟨by rfl, rfl⟩) (by assumption) ?_
                    simp only [Act.put, List.setIfInBounds_toArray, List.set_cons_zero, List.set_cons_succ]
                    refine wpAnyH_take (i := 17) (oi := { dst := some 66, op := Op.binOp BinOp.neq 142 (Operand.tmp 61) (Operand.tmp 65) 142, type := 4, pos := "ref.go:80", after := #[{ on := 12, ground := Ground.data }, { on := 16, ground := Ground.data }, { on := 9, ground := Ground.guard }], guard := some (9, false) }) (v := undef) rfl (by kernel_rfl) (by kernel_rfl) (by kernel_rfl) (fun _ _ _ h => h) (Or.inr ⟨by rfl, rfl⟩) (by assumption) ?_
                    simp only [Act.put, List.setIfInBounds_toArray, List.set_cons_zero, List.set_cons_succ]
                    refine wpAnyH_take (i := 18) (oi := { dst := some 67, op := Op.pick (Operand.tmp 58) (Operand.const (Value.bool true)) (Operand.tmp 66), type := 4, pos := "ref.go:80", after := #[{ on := 9, ground := Ground.data }, { on := 17, ground := Ground.data }], guard := none }) (v := ?_) rfl (by kernel_rfl) (by kernel_rfl) (by kernel_rfl) (fun _ _ _ h => h) (Or.inl ⟨by rfl, ?_⟩) (by assumption) ?_
                    rotate_left
                    · (intro w hSw; (try dsimp only at hSw); go_simp; try with_reducible rfl)
                    simp only [Act.put, List.setIfInBounds_toArray, List.set_cons_zero, List.set_cons_succ]
                    refine wpAnyH_done (by kernel_rfl) ?_ _
                    go_wp2_with fail
                    go_meet
                    exact ⟨congrArg Value.bool HG4.out.symm, md4⟩

                  · have l4b : ((L : Int) - 4) = ((L - 4 : Nat) : Int) := by omega
                    have l4w : IntKind.i64.wrap ((L : Int) - 4) = (L : Int) - 4 := IntWalk.i64_in _ (by omega)
                    clear l4b
                    by_cases l2 : (8192 : Int) < (L : Int) - 4
                    · have hg : (!decide (4 ≤ L ∧ L ≤ 8196 ∧ A = X)) = true := by rw [decide_eq_false (by omega)]; rfl
                      have HG4 := Lib.hid hg
                      clear hg
                      refine wp_region_held_drew (S := fun w' => Mod (fun _ => False) w4 w') (by kernel_rfl) (md4) (fun hHeld => ?_)
                      refine wpAnyH_take (i := 0) (oi := { dst := some 49, op := Op.move (Operand.tmp 7), type := 22, pos := "ref.go:80", after := #[], guard := none }) (v := ?_) rfl (by kernel_rfl) (by kernel_rfl) (by kernel_rfl) (fun _ _ _ h => h) (Or.inl ⟨by rfl, ?_⟩) (by assumption) ?_
                      rotate_left
                      · (intro w hSw; (try dsimp only at hSw); go_simp; try with_reducible rfl)
                      simp only [Act.put, List.setIfInBounds_toArray, List.set_cons_zero, List.set_cons_succ]
                      refine wpAnyH_take (i := 1) (oi := { dst := some 50, op := Op.call { callee := Callee.builtin Builtin.len, args := #[Operand.tmp 49], argTypes := #[22] }, type := 3, pos := "ref.go:80", after := #[{ on := 0, ground := Ground.data }], guard := none }) (v := ?_) rfl (by kernel_rfl) (by kernel_rfl) (by kernel_rfl) (fun _ _ _ h => h) (Or.inl ⟨by rfl, ?_⟩) (by assumption) ?_
                      rotate_left
                      · (intro w hSw; (try dsimp only at hSw); go_simp; try with_reducible rfl)
                      simp only [Act.put, List.setIfInBounds_toArray, List.set_cons_zero, List.set_cons_succ]
                      refine wpAnyH_take (i := 2) (oi := { dst := some 51, op := Op.binOp BinOp.lss 3 (Operand.tmp 50) (Operand.const (Value.int IntKind.i64 4)) 3, type := 4, pos := "ref.go:80", after := #[{ on := 1, ground := Ground.data }], guard := none }) (v := ?_) rfl (by kernel_rfl) (by kernel_rfl) (by kernel_rfl) (fun _ _ _ h => h) (Or.inl ⟨by rfl, ?_⟩) (by assumption) ?_
                      rotate_left
                      · (intro w hSw; (try dsimp only at hSw); go_simp; try with_reducible rfl)
                      simp only [Act.put, List.setIfInBounds_toArray, List.set_cons_zero, List.set_cons_succ]
                      refine wpAnyH_take (i := 3) (oi := { dst := some 52, op := Op.move (Operand.tmp 51), type := 4, pos := "ref.go:80", after := #[{ on := 2, ground := Ground.data }], guard := none }) (v := ?_) rfl (by kernel_rfl) (by kernel_rfl) (by kernel_rfl) (fun _ _ _ h => h) (Or.inl ⟨by rfl, ?_⟩) (by assumption) ?_
                      rotate_left
                      · (intro w hSw; (try dsimp only at hSw); go_simp; try with_reducible rfl)
                      simp only [Act.put, List.setIfInBounds_toArray, List.set_cons_zero, List.set_cons_succ]
                      refine wpAnyH_take (i := 4) (oi := { dst := some 53, op := Op.move (Operand.tmp 7), type := 22, pos := "ref.go:80", after := #[{ on := 3, ground := Ground.guard }], guard := some (3, false) }) (v := ?_) rfl (by kernel_rfl) (by kernel_rfl) (by kernel_rfl) (fun _ _ _ h => h) (Or.inl ⟨by rfl, ?_⟩) (by assumption) ?_
                      rotate_left
                      · (intro w hSw; (try dsimp only at hSw); go_simp; try with_reducible rfl)
                      simp only [Act.put, List.setIfInBounds_toArray, List.set_cons_zero, List.set_cons_succ]
                      refine wpAnyH_take (i := 5) (oi := { dst := some 54, op := Op.call { callee := Callee.builtin Builtin.len, args := #[Operand.tmp 53], argTypes := #[22] }, type := 3, pos := "ref.go:80", after := #[{ on := 4, ground := Ground.data }, { on := 3, ground := Ground.guard }], guard := some (3, false) }) (v := ?_) rfl (by kernel_rfl) (by kernel_rfl) (by kernel_rfl) (fun _ _ _ h => h) (Or.inl ⟨by rfl, ?_⟩) (by assumption) ?_
                      rotate_left
                      · (intro w hSw; (try dsimp only at hSw); go_simp; try with_reducible rfl)
                      simp only [Act.put, List.setIfInBounds_toArray, List.set_cons_zero, List.set_cons_succ]
                      refine wpAnyH_take (i := 6) (oi := { dst := some 55, op := Op.binOp BinOp.sub 3 (Operand.tmp 54) (Operand.const (Value.int IntKind.i64 4)) 3, type := 3, pos := "ref.go:80", after := #[{ on := 5, ground := Ground.data }, { on := 3, ground := Ground.guard }], guard := some (3, false) }) (v := ?_) rfl (by kernel_rfl) (by kernel_rfl) (by kernel_rfl) (fun _ _ _ h => h) (Or.inl ⟨by rfl, ?_⟩) (by assumption) ?_
                      rotate_left
                      · (intro w hSw; (try dsimp only at hSw); go_simp; try with_reducible rfl)
                      simp only [Act.put, List.setIfInBounds_toArray, List.set_cons_zero, List.set_cons_succ]
                      refine wpAnyH_take (i := 7) (oi := { dst := some 56, op := Op.binOp BinOp.gtr 3 (Operand.tmp 55) (Operand.const (Value.int IntKind.i64 8192)) 3, type := 4, pos := "ref.go:80", after := #[{ on := 6, ground := Ground.data }, { on := 3, ground := Ground.guard }], guard := some (3, false) }) (v := ?_) rfl (by kernel_rfl) (by kernel_rfl) (by kernel_rfl) (fun _ _ _ h => h) (Or.inl ⟨by rfl, ?_⟩) (by assumption) ?_
                      rotate_left
                      · (intro w hSw; (try dsimp only at hSw); go_simp; try with_reducible rfl)
                      simp only [Act.put, List.setIfInBounds_toArray, List.set_cons_zero, List.set_cons_succ]
                      refine wpAnyH_take (i := 8) (oi := { dst := some 57, op := Op.pick (Operand.tmp 52) (Operand.const (Value.bool true)) (Operand.tmp 56), type := 4, pos := "ref.go:80", after := #[{ on := 3, ground := Ground.data }, { on := 7, ground := Ground.data }], guard := none }) (v := ?_) rfl (by kernel_rfl) (by kernel_rfl) (by kernel_rfl) (fun _ _ _ h => h) (Or.inl ⟨by rfl, ?_⟩) (by assumption) ?_
                      rotate_left
                      · (intro w hSw; (try dsimp only at hSw); go_simp; try with_reducible rfl)
                      simp only [Act.put, List.setIfInBounds_toArray, List.set_cons_zero, List.set_cons_succ]
                      refine wpAnyH_take (i := 9) (oi := { dst := some 58, op := Op.move (Operand.tmp 57), type := 4, pos := "ref.go:80", after := #[{ on := 8, ground := Ground.data }, { on := 3, ground := Ground.chain }], guard := none }) (v := ?_) rfl (by kernel_rfl) (by kernel_rfl) (by kernel_rfl) (fun _ _ _ h => h) (Or.inl ⟨by rfl, ?_⟩) (by assumption) ?_
                      rotate_left
                      · (intro w hSw; (try dsimp only at hSw); go_simp; try with_reducible rfl)
                      simp only [Act.put, List.setIfInBounds_toArray, List.set_cons_zero, List.set_cons_succ]
                      refine wpAnyH_take (i := 10) (oi := { dst := some 59, op := Op.move (Operand.tmp 7), type := 22, pos := "ref.go:80", after := #[{ on := 9, ground := Ground.guard }], guard := some (9, false) }) (v := undef) rfl (by kernel_rfl) (by kernel_rfl) (by kernel_rfl) (fun _ _ _ h => h) (Or.inr ⟨by rfl, rfl⟩) (by assumption) ?_
                      simp only [Act.put, List.setIfInBounds_toArray, List.set_cons_zero, List.set_cons_succ]
                      refine wpAnyH_take (i := 11) (oi := { dst := some 60, op := Op.slice 22 (Operand.tmp 59) none (some (Operand.const (Value.int IntKind.i64 4))) none, type := 22, pos := "ref.go:80", after := #[{ on := 10, ground := Ground.data }, { on := 9, ground := Ground.guard }], guard := some (9, false) }) (v := undef) rfl (by kernel_rfl) (by kernel_rfl) (by kernel_rfl) (fun _ _ _ h => h) (Or.inr ⟨by rfl, rfl⟩) (by assumption) ?_
                      simp only [Act.put, List.setIfInBounds_toArray, List.set_cons_zero, List.set_cons_succ]
                      refine wpAnyH_take (i := 12) (oi := { dst := some 61, op := Op.call { callee := Callee.value (Operand.func 139), args := #[Operand.tmp 60], argTypes := #[22] }, type := 142, pos := "ref.go:80", after := #[{ on := 11, ground := Ground.data }, { on := 9, ground := Ground.chain }, { on := 9, ground := Ground.guard }], guard := some (9, false) }) (v := undef) rfl (by kernel_rfl) (by kernel_rfl) (by kernel_rfl) (fun _ _ _ h => h) (Or.inr ⟨by rfl, rfl⟩) (by assumption) ?_
                      simp only [Act.put, List.setIfInBounds_toArray, List.set_cons_zero, List.set_cons_succ]
                      refine wpAnyH_take (i := 13) (oi := { dst := some 62, op := Op.move (Operand.tmp 7), type := 22, pos := "ref.go:80", after := #[{ on := 9, ground := Ground.guard }], guard := some (9, false) }) (v := undef) rfl (by kernel_rfl) (by kernel_rfl) (by kernel_rfl) (fun _ _ _ h => h) (Or.inr ⟨by rfl, rfl⟩) (by assumption) ?_
                      simp only [Act.put, List.setIfInBounds_toArray, List.set_cons_zero, List.set_cons_succ]
                      refine wpAnyH_take (i := 14) (oi := { dst := some 63, op := Op.slice 22 (Operand.tmp 62) (some (Operand.const (Value.int IntKind.i64 4))) none none, type := 22, pos := "ref.go:80", after := #[{ on := 13, ground := Ground.data }, { on := 9, ground := Ground.guard }], guard := some (9, false) }) (v := undef) rfl (by kernel_rfl) (by kernel_rfl) (by kernel_rfl) (fun _ _ _ h => h) (Or.inr ⟨by rfl, rfl⟩) (by assumption) ?_
                      simp only [Act.put, List.setIfInBounds_toArray, List.set_cons_zero, List.set_cons_succ]
                      refine wpAnyH_take (i := 15) (oi := { dst := some 64, op := Op.call { callee := Callee.value (Operand.func 138), args := #[Operand.tmp 63], argTypes := #[22] }, type := 23, pos := "ref.go:80", after := #[{ on := 14, ground := Ground.data }, { on := 12, ground := Ground.chain }, { on := 9, ground := Ground.guard }], guard := some (9, false) }) (v := undef) rfl (by kernel_rfl) (by kernel_rfl) (by kernel_rfl) (fun _ _ _ h => h) (Or.inr ⟨by rfl, rfl⟩) (by assumption) ?_
                      simp only [Act.put, List.setIfInBounds_toArray, List.set_cons_zero, List.set_cons_succ]
                      refine wpAnyH_take (i := 16) (oi := { dst := some 65, op := Op.convert 23 142 (Operand.tmp 64), type := 142, pos := "ref.go:80", after := #[{ on := 15, ground := Ground.data }, { on := 9, ground := Ground.guard }], guard := some (9, false) }) (v := undef) rfl (by kernel_rfl) (by kernel_rfl) (by kernel_rfl) (fun _ _ _ h => h) (Or.inr ⟨by rfl, rfl⟩) (by assumption) ?_
                      simp only [Act.put, List.setIfInBounds_toArray, List.set_cons_zero, List.set_cons_succ]
                      refine wpAnyH_take (i := 17) (oi := { dst := some 66, op := Op.binOp BinOp.neq 142 (Operand.tmp 61) (Operand.tmp 65) 142, type := 4, pos := "ref.go:80", after := #[{ on := 12, ground := Ground.data }, { on := 16, ground := Ground.data }, { on := 9, ground := Ground.guard }], guard := some (9, false) }) (v := undef) rfl (by kernel_rfl) (by kernel_rfl) (by kernel_rfl) (fun _ _ _ h => h) (Or.inr ⟨by rfl, rfl⟩) (by assumption) ?_
                      simp only [Act.put, List.setIfInBounds_toArray, List.set_cons_zero, List.set_cons_succ]
                      refine wpAnyH_take (i := 18) (oi := { dst := some 67, op := Op.pick (Operand.tmp 58) (Operand.const (Value.bool true)) (Operand.tmp 66), type := 4, pos := "ref.go:80", after := #[{ on := 9, ground := Ground.data }, { on := 17, ground := Ground.data }], guard := none }) (v := ?_) rfl (by kernel_rfl) (by kernel_rfl) (by kernel_rfl) (fun _ _ _ h => h) (Or.inl ⟨by rfl, ?_⟩) (by assumption) ?_
                      rotate_left
                      · (intro w hSw; (try dsimp only at hSw); go_simp; try with_reducible rfl)
                      simp only [Act.put, List.setIfInBounds_toArray, List.set_cons_zero, List.set_cons_succ]
                      refine wpAnyH_done (by kernel_rfl) ?_ _
                      go_wp2_with fail
                      go_meet
                      exact ⟨congrArg Value.bool HG4.out.symm, md4⟩

                    · have hne : al ≠ [] := by intro e; have := HL.out; rw [e] at this; simp at this; omega
                      obtain ⟨g4, _, _, e4, -, -, -, -, -, -⟩ := HO5.out.row hne
                      injection e4 with e4 e5 e6
                      subst e4
                      clear e5 e6
                      have hcI : (4 : Int) ≤ (c4 : Int) := by omega
                      have hbs4 := (OwnB.bytes HO5.out).2
                      have KB1 : ∀ w', Mod (fun _ => False) w4 w' → Calls Try.prog 139 #[.slice (some ⟨g4, 0, none⟩) 4 c4] w' fun e w'' => e = .returned (.int .u64 (A : Int)) ∧ w' = w'' := fun w' hm' => by
                        have := rback_any (some ⟨g4, 0, none⟩) (al.take 4) 4 c4 w' (by rw [List.length_take, ← HL.out]; omega) ((hbs4.take0 4).mod hm' (fun _ _ _ => id)) (by rw [List.length_take]; omega)
                        rw [← HA.out] at this
                        exact this
                      have KB2 : ∀ w', Mod (fun _ => False) w4 w' → ∀ ax, (ax = (⟨g4, 4, none⟩ : Addr) ∨ L = 4) → Calls Try.prog 138 #[.slice (some ax) (L - 4) (c4 - 4)] w' fun e w'' => e = .returned (.int .u32 (X : Int)) ∧ w' = w'' := fun w' hm' ax hax => by
                        have hdl : (al.drop 4).length = L - 4 := by rw [List.length_drop, ← HL.out]
                        have hb : BytesAt w' (some ax) (al.drop 4) := by
                          rcases hax with rfl | h4
                          · have := (hbs4.sub 4 (L - 4)).mod hm' (fun _ _ _ => id)
                            rw [Nat.zero_add, List.take_of_length_le (by rw [hdl]; exact Nat.le_refl _)] at this
                            exact this
                          · have hnil : al.drop 4 = [] := List.eq_nil_of_length_eq_zero (by rw [hdl]; omega)
                            rw [hnil]
                            exact BytesAt.nil _ _
                        have := rsum_any (some ax) (al.drop 4) (L - 4) (c4 - 4) w' hdl (by rw [hdl]; omega) hb
                        rw [← HX.out] at this
                        exact this
                      replace KB1 := Lib.hid KB1
                      replace KB2 := Lib.hid KB2
                      have wX : IntKind.u64.wrap (X : Int) = (X : Int) := IntWalk.u64_in _ (by omega)
                      obtain ⟨bx, hbx⟩ : ∃ bx : Bool, ((A : Int) != (X : Int)) = bx := ⟨_, rfl⟩
                      have hg : (!decide (4 ≤ L ∧ L ≤ 8196 ∧ A = X)) = bx := by
                        rw [← hbx]
                        by_cases h : A = X
                        · rw [decide_eq_true (by omega), h]; simp
                        · rw [decide_eq_false (by omega)]
                          symm
                          rw [show (!false) = true from rfl, bne_iff_ne]
                          omega
                      have HG4 := Lib.hid hg
                      have l3 : (4 : Int) ≤ (L : Int) := by omega
                      have l1b : decide ((L : Int) < 4) = false := by simpa using l1
                      have l2b : decide ((8192 : Int) < (L : Int) - 4) = false := by simpa using l2
                      clear hg hbs4 hne
                      by_cases hc4 : c4 = 4
                      · obtain rfl : L = 4 := by omega
                        subst hc4
                        clear l1 l2 l3 hcI
                        refine wp_region_held_drew (S := fun w' => Mod (fun _ => False) w4 w') (by kernel_rfl) (md4) (fun hHeld => ?_)
                        refine wpAnyH_take (i := 0) (oi := { dst := some 49, op := Op.move (Operand.tmp 7), type := 22, pos := "ref.go:80", after := #[], guard := none }) (v := ?_) rfl (by kernel_rfl) (by kernel_rfl) (by kernel_rfl) (fun _ _ _ h => h) (Or.inl ⟨by rfl, ?_⟩) (by assumption) ?_
                        rotate_left
                        · (intro w hSw; (try dsimp only at hSw); go_simp; try with_reducible rfl)
                        simp only [Act.put, List.setIfInBounds_toArray, List.set_cons_zero, List.set_cons_succ]
                        refine wpAnyH_take (i := 1) (oi := { dst := some 50, op := Op.call { callee := Callee.builtin Builtin.len, args := #[Operand.tmp 49], argTypes := #[22] }, type := 3, pos := "ref.go:80", after := #[{ on := 0, ground := Ground.data }], guard := none }) (v := ?_) rfl (by kernel_rfl) (by kernel_rfl) (by kernel_rfl) (fun _ _ _ h => h) (Or.inl ⟨by rfl, ?_⟩) (by assumption) ?_
                        rotate_left
                        · (intro w hSw; (try dsimp only at hSw); go_simp; try with_reducible rfl)
                        simp only [Act.put, List.setIfInBounds_toArray, List.set_cons_zero, List.set_cons_succ]
                        refine wpAnyH_take (i := 2) (oi := { dst := some 51, op := Op.binOp BinOp.lss 3 (Operand.tmp 50) (Operand.const (Value.int IntKind.i64 4)) 3, type := 4, pos := "ref.go:80", after := #[{ on := 1, ground := Ground.data }], guard := none }) (v := ?_) rfl (by kernel_rfl) (by kernel_rfl) (by kernel_rfl) (fun _ _ _ h => h) (Or.inl ⟨by rfl, ?_⟩) (by assumption) ?_
                        rotate_left
                        · (intro w hSw; (try dsimp only at hSw); go_simp; try with_reducible rfl)
                        simp only [Act.put, List.setIfInBounds_toArray, List.set_cons_zero, List.set_cons_succ]
                        refine wpAnyH_take (i := 3) (oi := { dst := some 52, op := Op.move (Operand.tmp 51), type := 4, pos := "ref.go:80", after := #[{ on := 2, ground := Ground.data }], guard := none }) (v := ?_) rfl (by kernel_rfl) (by kernel_rfl) (by kernel_rfl) (fun _ _ _ h => h) (Or.inl ⟨by rfl, ?_⟩) (by assumption) ?_
                        rotate_left
                        · (intro w hSw; (try dsimp only at hSw); go_simp; try with_reducible rfl)
                        simp only [Act.put, List.setIfInBounds_toArray, List.set_cons_zero, List.set_cons_succ]
                        refine wpAnyH_take (i := 4) (oi := { dst := some 53, op := Op.move (Operand.tmp 7), type := 22, pos := "ref.go:80", after := #[{ on := 3, ground := Ground.guard }], guard := some (3, false) }) (v := ?_) rfl (by kernel_rfl) (by kernel_rfl) (by kernel_rfl) (fun _ _ _ h => h) (Or.inl ⟨by rfl, ?_⟩) (by assumption) ?_
                        rotate_left
                        · (intro w hSw; (try dsimp only at hSw); go_simp; try with_reducible rfl)
                        simp only [Act.put, List.setIfInBounds_toArray, List.set_cons_zero, List.set_cons_succ]
                        refine wpAnyH_take (i := 5) (oi := { dst := some 54, op := Op.call { callee := Callee.builtin Builtin.len, args := #[Operand.tmp 53], argTypes := #[22] }, type := 3, pos := "ref.go:80", after := #[{ on := 4, ground := Ground.data }, { on := 3, ground := Ground.guard }], guard := some (3, false) }) (v := ?_) rfl (by kernel_rfl) (by kernel_rfl) (by kernel_rfl) (fun _ _ _ h => h) (Or.inl ⟨by rfl, ?_⟩) (by assumption) ?_
                        rotate_left
                        · (intro w hSw; (try dsimp only at hSw); go_simp; try with_reducible rfl)
                        simp only [Act.put, List.setIfInBounds_toArray, List.set_cons_zero, List.set_cons_succ]
                        refine wpAnyH_take (i := 6) (oi := { dst := some 55, op := Op.binOp BinOp.sub 3 (Operand.tmp 54) (Operand.const (Value.int IntKind.i64 4)) 3, type := 3, pos := "ref.go:80", after := #[{ on := 5, ground := Ground.data }, { on := 3, ground := Ground.guard }], guard := some (3, false) }) (v := ?_) rfl (by kernel_rfl) (by kernel_rfl) (by kernel_rfl) (fun _ _ _ h => h) (Or.inl ⟨by rfl, ?_⟩) (by assumption) ?_
                        rotate_left
                        · (intro w hSw; (try dsimp only at hSw); go_simp; try with_reducible rfl)
                        simp only [Act.put, List.setIfInBounds_toArray, List.set_cons_zero, List.set_cons_succ]
                        refine wpAnyH_take (i := 7) (oi := { dst := some 56, op := Op.binOp BinOp.gtr 3 (Operand.tmp 55) (Operand.const (Value.int IntKind.i64 8192)) 3, type := 4, pos := "ref.go:80", after := #[{ on := 6, ground := Ground.data }, { on := 3, ground := Ground.guard }], guard := some (3, false) }) (v := ?_) rfl (by kernel_rfl) (by kernel_rfl) (by kernel_rfl) (fun _ _ _ h => h) (Or.inl ⟨by rfl, ?_⟩) (by assumption) ?_
                        rotate_left
                        · (intro w hSw; (try dsimp only at hSw); go_simp; try with_reducible rfl)
                        simp only [Act.put, List.setIfInBounds_toArray, List.set_cons_zero, List.set_cons_succ]
                        refine wpAnyH_take (i := 8) (oi := { dst := some 57, op := Op.pick (Operand.tmp 52) (Operand.const (Value.bool true)) (Operand.tmp 56), type := 4, pos := "ref.go:80", after := #[{ on := 3, ground := Ground.data }, { on := 7, ground := Ground.data }], guard := none }) (v := ?_) rfl (by kernel_rfl) (by kernel_rfl) (by kernel_rfl) (fun _ _ _ h => h) (Or.inl ⟨by rfl, ?_⟩) (by assumption) ?_
                        rotate_left
                        · (intro w hSw; (try dsimp only at hSw); go_simp; try with_reducible rfl)
                        simp only [Act.put, List.setIfInBounds_toArray, List.set_cons_zero, List.set_cons_succ]
                        refine wpAnyH_take (i := 9) (oi := { dst := some 58, op := Op.move (Operand.tmp 57), type := 4, pos := "ref.go:80", after := #[{ on := 8, ground := Ground.data }, { on := 3, ground := Ground.chain }], guard := none }) (v := ?_) rfl (by kernel_rfl) (by kernel_rfl) (by kernel_rfl) (fun _ _ _ h => h) (Or.inl ⟨by rfl, ?_⟩) (by assumption) ?_
                        rotate_left
                        · (intro w hSw; (try dsimp only at hSw); go_simp; try with_reducible rfl)
                        simp only [Act.put, List.setIfInBounds_toArray, List.set_cons_zero, List.set_cons_succ]
                        refine wpAnyH_take (i := 10) (oi := { dst := some 59, op := Op.move (Operand.tmp 7), type := 22, pos := "ref.go:80", after := #[{ on := 9, ground := Ground.guard }], guard := some (9, false) }) (v := ?_) rfl (by kernel_rfl) (by kernel_rfl) (by kernel_rfl) (fun _ _ _ h => h) (Or.inl ⟨by rfl, ?_⟩) (by assumption) ?_
                        rotate_left
                        · (intro w hSw; (try dsimp only at hSw); go_simp; try with_reducible rfl)
                        simp only [Act.put, List.setIfInBounds_toArray, List.set_cons_zero, List.set_cons_succ]
                        refine wpAnyH_take (i := 11) (oi := { dst := some 60, op := Op.slice 22 (Operand.tmp 59) none (some (Operand.const (Value.int IntKind.i64 4))) none, type := 22, pos := "ref.go:80", after := #[{ on := 10, ground := Ground.data }, { on := 9, ground := Ground.guard }], guard := some (9, false) }) (v := ?_) rfl (by kernel_rfl) (by kernel_rfl) (by kernel_rfl) (fun _ _ _ h => h) (Or.inl ⟨by rfl, ?_⟩) (by assumption) ?_
                        rotate_left
                        · (intro w hSw; (try dsimp only at hSw); go_simp; try with_reducible rfl)
                        simp only [Act.put, List.setIfInBounds_toArray, List.set_cons_zero, List.set_cons_succ]
                        refine wpAnyH_take (i := 13) (oi := { dst := some 62, op := Op.move (Operand.tmp 7), type := 22, pos := "ref.go:80", after := #[{ on := 9, ground := Ground.guard }], guard := some (9, false) }) (v := ?_) rfl (by kernel_rfl) (by kernel_rfl) (by kernel_rfl) (fun _ _ _ h => h) (Or.inl ⟨by rfl, ?_⟩) (by assumption) ?_
                        rotate_left
                        · (intro w hSw; (try dsimp only at hSw); go_simp; try with_reducible rfl)
                        simp only [Act.put, List.setIfInBounds_toArray, List.set_cons_zero, List.set_cons_succ]
                        refine wpAnyH_take (i := 14) (oi := { dst := some 63, op := Op.slice 22 (Operand.tmp 62) (some (Operand.const (Value.int IntKind.i64 4))) none none, type := 22, pos := "ref.go:80", after := #[{ on := 13, ground := Ground.data }, { on := 9, ground := Ground.guard }], guard := some (9, false) }) (v := ?_) rfl (by kernel_rfl) (by kernel_rfl) (by kernel_rfl) (fun _ _ _ h => h) (Or.inl ⟨by rfl, ?_⟩) (by assumption) ?_
                        rotate_left
                        · (intro w hSw; (try dsimp only at hSw); go_simp; try with_reducible rfl)
                        simp only [Act.put, List.setIfInBounds_toArray, List.set_cons_zero, List.set_cons_succ]
                        refine held_call (i := 12) (oi := { dst := some 61, op := Op.call { callee := Callee.value (Operand.func 139), args := #[Operand.tmp 60], argTypes := #[22] }, type := 142, pos := "ref.go:80", after := #[{ on := 11, ground := Ground.data }, { on := 9, ground := Ground.chain }, { on := 9, ground := Ground.guard }], guard := some (9, false) }) (v := (.int .u64 (A : Int))) rfl (by kernel_rfl) (by kernel_rfl) (by kernel_rfl) (fun _ _ _ h => h) (by assumption) 139 #[.slice (some ⟨g4, 0, none⟩) 4 4] (by rfl) (fun w => by go_simp) (fun w hSw => KB1.out _ hSw) ?_
                        simp only [Act.put, List.setIfInBounds_toArray, List.set_cons_zero, List.set_cons_succ]
                        refine held_call (i := 15) (oi := { dst := some 64, op := Op.call { callee := Callee.value (Operand.func 138), args := #[Operand.tmp 63], argTypes := #[22] }, type := 23, pos := "ref.go:80", after := #[{ on := 14, ground := Ground.data }, { on := 12, ground := Ground.chain }, { on := 9, ground := Ground.guard }], guard := some (9, false) }) (v := (.int .u32 (X : Int))) rfl (by kernel_rfl) (by kernel_rfl) (by kernel_rfl) (fun _ _ _ h => h) (by assumption) 138 #[.slice (some ⟨g4, 0, none⟩) (4 - 4) (4 - 4)] (by rfl) (fun w => by go_simp) (fun w hSw => KB2.out _ hSw _ (by first | exact .inr rfl | exact .inr trivial)) ?_
                        simp only [Act.put, List.setIfInBounds_toArray, List.set_cons_zero, List.set_cons_succ]
                        refine wpAnyH_take (i := 16) (oi := { dst := some 65, op := Op.convert 23 142 (Operand.tmp 64), type := 142, pos := "ref.go:80", after := #[{ on := 15, ground := Ground.data }, { on := 9, ground := Ground.guard }], guard := some (9, false) }) (v := ?_) rfl (by kernel_rfl) (by kernel_rfl) (by kernel_rfl) (fun _ _ _ h => h) (Or.inl ⟨by rfl, ?_⟩) (by assumption) ?_
                        rotate_left
                        · (intro w hSw; (try dsimp only at hSw); go_simp; try with_reducible rfl)
                        simp only [Act.put, List.setIfInBounds_toArray, List.set_cons_zero, List.set_cons_succ]
                        refine wpAnyH_take (i := 17) (oi := { dst := some 66, op := Op.binOp BinOp.neq 142 (Operand.tmp 61) (Operand.tmp 65) 142, type := 4, pos := "ref.go:80", after := #[{ on := 12, ground := Ground.data }, { on := 16, ground := Ground.data }, { on := 9, ground := Ground.guard }], guard := some (9, false) }) (v := ?_) rfl (by kernel_rfl) (by kernel_rfl) (by kernel_rfl) (fun _ _ _ h => h) (Or.inl ⟨by rfl, ?_⟩) (by assumption) ?_
                        rotate_left
                        · (intro w hSw; (try dsimp only at hSw); go_simp; try with_reducible rfl)
                        simp only [Act.put, List.setIfInBounds_toArray, List.set_cons_zero, List.set_cons_succ]
                        refine wpAnyH_take (i := 18) (oi := { dst := some 67, op := Op.pick (Operand.tmp 58) (Operand.const (Value.bool true)) (Operand.tmp 66), type := 4, pos := "ref.go:80", after := #[{ on := 9, ground := Ground.data }, { on := 17, ground := Ground.data }], guard := none }) (v := ?_) rfl (by kernel_rfl) (by kernel_rfl) (by kernel_rfl) (fun _ _ _ h => h) (Or.inl ⟨by rfl, ?_⟩) (by assumption) ?_
                        rotate_left
                        · (intro w hSw; (try dsimp only at hSw); go_simp; try with_reducible rfl)
                        simp only [Act.put, List.setIfInBounds_toArray, List.set_cons_zero, List.set_cons_succ]
                        refine wpAnyH_done (by kernel_rfl) ?_ _
                        go_wp2_with fail
                        go_meet
                        exact ⟨congrArg Value.bool HG4.out.symm, md4⟩

                      · have hs0 : ¬ (c4 = 4) := hc4
                        refine wp_region_held_drew (S := fun w' => Mod (fun _ => False) w4 w') (by kernel_rfl) (md4) (fun hHeld => ?_)
                        refine wpAnyH_take (i := 0) (oi := { dst := some 49, op := Op.move (Operand.tmp 7), type := 22, pos := "ref.go:80", after := #[], guard := none }) (v := ?_) rfl (by kernel_rfl) (by kernel_rfl) (by kernel_rfl) (fun _ _ _ h => h) (Or.inl ⟨by rfl, ?_⟩) (by assumption) ?_
                        rotate_left
                        · (intro w hSw; (try dsimp only at hSw); go_simp; try with_reducible rfl)
                        simp only [Act.put, List.setIfInBounds_toArray, List.set_cons_zero, List.set_cons_succ]
                        refine wpAnyH_take (i := 1) (oi := { dst := some 50, op := Op.call { callee := Callee.builtin Builtin.len, args := #[Operand.tmp 49], argTypes := #[22] }, type := 3, pos := "ref.go:80", after := #[{ on := 0, ground := Ground.data }], guard := none }) (v := ?_) rfl (by kernel_rfl) (by kernel_rfl) (by kernel_rfl) (fun _ _ _ h => h) (Or.inl ⟨by rfl, ?_⟩) (by assumption) ?_
                        rotate_left
                        · (intro w hSw; (try dsimp only at hSw); go_simp; try with_reducible rfl)
                        simp only [Act.put, List.setIfInBounds_toArray, List.set_cons_zero, List.set_cons_succ]
                        refine wpAnyH_take (i := 2) (oi := { dst := some 51, op := Op.binOp BinOp.lss 3 (Operand.tmp 50) (Operand.const (Value.int IntKind.i64 4)) 3, type := 4, pos := "ref.go:80", after := #[{ on := 1, ground := Ground.data }], guard := none }) (v := ?_) rfl (by kernel_rfl) (by kernel_rfl) (by kernel_rfl) (fun _ _ _ h => h) (Or.inl ⟨by rfl, ?_⟩) (by assumption) ?_
                        rotate_left
                        · (intro w hSw; (try dsimp only at hSw); go_simp; try with_reducible rfl)
                        simp only [Act.put, List.setIfInBounds_toArray, List.set_cons_zero, List.set_cons_succ]
                        refine wpAnyH_take (i := 3) (oi := { dst := some 52, op := Op.move (Operand.tmp 51), type := 4, pos := "ref.go:80", after := #[{ on := 2, ground := Ground.data }], guard := none }) (v := ?_) rfl (by kernel_rfl) (by kernel_rfl) (by kernel_rfl) (fun _ _ _ h => h) (Or.inl ⟨by rfl, ?_⟩) (by assumption) ?_
                        rotate_left
                        · (intro w hSw; (try dsimp only at hSw); go_simp; try with_reducible rfl)
                        simp only [Act.put, List.setIfInBounds_toArray, List.set_cons_zero, List.set_cons_succ]
                        refine wpAnyH_take (i := 4) (oi := { dst := some 53, op := Op.move (Operand.tmp 7), type := 22, pos := "ref.go:80", after := #[{ on := 3, ground := Ground.guard }], guard := some (3, false) }) (v := ?_) rfl (by kernel_rfl) (by kernel_rfl) (by kernel_rfl) (fun _ _ _ h => h) (Or.inl ⟨by rfl, ?_⟩) (by assumption) ?_
                        rotate_left
                        · (intro w hSw; (try dsimp only at hSw); go_simp; try with_reducible rfl)
                        simp only [Act.put, List.setIfInBounds_toArray, List.set_cons_zero, List.set_cons_succ]
                        refine wpAnyH_take (i := 5) (oi := { dst := some 54, op := Op.call { callee := Callee.builtin Builtin.len, args := #[Operand.tmp 53], argTypes := #[22] }, type := 3, pos := "ref.go:80", after := #[{ on := 4, ground := Ground.data }, { on := 3, ground := Ground.guard }], guard := some (3, false) }) (v := ?_) rfl (by kernel_rfl) (by kernel_rfl) (by kernel_rfl) (fun _ _ _ h => h) (Or.inl ⟨by rfl, ?_⟩) (by assumption) ?_
                        rotate_left
                        · (intro w hSw; (try dsimp only at hSw); go_simp; try with_reducible rfl)
                        simp only [Act.put, List.setIfInBounds_toArray, List.set_cons_zero, List.set_cons_succ]
                        refine wpAnyH_take (i := 6) (oi := { dst := some 55, op := Op.binOp BinOp.sub 3 (Operand.tmp 54) (Operand.const (Value.int IntKind.i64 4)) 3, type := 3, pos := "ref.go:80", after := #[{ on := 5, ground := Ground.data }, { on := 3, ground := Ground.guard }], guard := some (3, false) }) (v := ?_) rfl (by kernel_rfl) (by kernel_rfl) (by kernel_rfl) (fun _ _ _ h => h) (Or.inl ⟨by rfl, ?_⟩) (by assumption) ?_
                        rotate_left
                        · (intro w hSw; (try dsimp only at hSw); go_simp; try with_reducible rfl)
                        simp only [Act.put, List.setIfInBounds_toArray, List.set_cons_zero, List.set_cons_succ]
                        refine wpAnyH_take (i := 7) (oi := { dst := some 56, op := Op.binOp BinOp.gtr 3 (Operand.tmp 55) (Operand.const (Value.int IntKind.i64 8192)) 3, type := 4, pos := "ref.go:80", after := #[{ on := 6, ground := Ground.data }, { on := 3, ground := Ground.guard }], guard := some (3, false) }) (v := ?_) rfl (by kernel_rfl) (by kernel_rfl) (by kernel_rfl) (fun _ _ _ h => h) (Or.inl ⟨by rfl, ?_⟩) (by assumption) ?_
                        rotate_left
                        · (intro w hSw; (try dsimp only at hSw); go_simp; try with_reducible rfl)
                        simp only [Act.put, List.setIfInBounds_toArray, List.set_cons_zero, List.set_cons_succ]
                        refine wpAnyH_take (i := 8) (oi := { dst := some 57, op := Op.pick (Operand.tmp 52) (Operand.const (Value.bool true)) (Operand.tmp 56), type := 4, pos := "ref.go:80", after := #[{ on := 3, ground := Ground.data }, { on := 7, ground := Ground.data }], guard := none }) (v := ?_) rfl (by kernel_rfl) (by kernel_rfl) (by kernel_rfl) (fun _ _ _ h => h) (Or.inl ⟨by rfl, ?_⟩) (by assumption) ?_
                        rotate_left
                        · (intro w hSw; (try dsimp only at hSw); go_simp; try with_reducible rfl)
                        simp only [Act.put, List.setIfInBounds_toArray, List.set_cons_zero, List.set_cons_succ]
                        refine wpAnyH_take (i := 9) (oi := { dst := some 58, op := Op.move (Operand.tmp 57), type := 4, pos := "ref.go:80", after := #[{ on := 8, ground := Ground.data }, { on := 3, ground := Ground.chain }], guard := none }) (v := ?_) rfl (by kernel_rfl) (by kernel_rfl) (by kernel_rfl) (fun _ _ _ h => h) (Or.inl ⟨by rfl, ?_⟩) (by assumption) ?_
                        rotate_left
                        · (intro w hSw; (try dsimp only at hSw); go_simp; try with_reducible rfl)
                        simp only [Act.put, List.setIfInBounds_toArray, List.set_cons_zero, List.set_cons_succ]
                        refine wpAnyH_take (i := 10) (oi := { dst := some 59, op := Op.move (Operand.tmp 7), type := 22, pos := "ref.go:80", after := #[{ on := 9, ground := Ground.guard }], guard := some (9, false) }) (v := ?_) rfl (by kernel_rfl) (by kernel_rfl) (by kernel_rfl) (fun _ _ _ h => h) (Or.inl ⟨by rfl, ?_⟩) (by assumption) ?_
                        rotate_left
                        · (intro w hSw; (try dsimp only at hSw); go_simp; try with_reducible rfl)
                        simp only [Act.put, List.setIfInBounds_toArray, List.set_cons_zero, List.set_cons_succ]
                        refine wpAnyH_take (i := 11) (oi := { dst := some 60, op := Op.slice 22 (Operand.tmp 59) none (some (Operand.const (Value.int IntKind.i64 4))) none, type := 22, pos := "ref.go:80", after := #[{ on := 10, ground := Ground.data }, { on := 9, ground := Ground.guard }], guard := some (9, false) }) (v := ?_) rfl (by kernel_rfl) (by kernel_rfl) (by kernel_rfl) (fun _ _ _ h => h) (Or.inl ⟨by rfl, ?_⟩) (by assumption) ?_
                        rotate_left
                        · (intro w hSw; (try dsimp only at hSw); go_simp; try with_reducible rfl)
                        simp only [Act.put, List.setIfInBounds_toArray, List.set_cons_zero, List.set_cons_succ]
                        refine wpAnyH_take (i := 13) (oi := { dst := some 62, op := Op.move (Operand.tmp 7), type := 22, pos := "ref.go:80", after := #[{ on := 9, ground := Ground.guard }], guard := some (9, false) }) (v := ?_) rfl (by kernel_rfl) (by kernel_rfl) (by kernel_rfl) (fun _ _ _ h => h) (Or.inl ⟨by rfl, ?_⟩) (by assumption) ?_
                        rotate_left
                        · (intro w hSw; (try dsimp only at hSw); go_simp; try with_reducible rfl)
                        simp only [Act.put, List.setIfInBounds_toArray, List.set_cons_zero, List.set_cons_succ]
                        refine wpAnyH_take (i := 14) (oi := { dst := some 63, op := Op.slice 22 (Operand.tmp 62) (some (Operand.const (Value.int IntKind.i64 4))) none none, type := 22, pos := "ref.go:80", after := #[{ on := 13, ground := Ground.data }, { on := 9, ground := Ground.guard }], guard := some (9, false) }) (v := ?_) rfl (by kernel_rfl) (by kernel_rfl) (by kernel_rfl) (fun _ _ _ h => h) (Or.inl ⟨by rfl, ?_⟩) (by assumption) ?_
                        rotate_left
                        · (intro w hSw; (try dsimp only at hSw); go_simp; try with_reducible rfl)
                        simp only [Act.put, List.setIfInBounds_toArray, List.set_cons_zero, List.set_cons_succ]
                        refine held_call (i := 12) (oi := { dst := some 61, op := Op.call { callee := Callee.value (Operand.func 139), args := #[Operand.tmp 60], argTypes := #[22] }, type := 142, pos := "ref.go:80", after := #[{ on := 11, ground := Ground.data }, { on := 9, ground := Ground.chain }, { on := 9, ground := Ground.guard }], guard := some (9, false) }) (v := (.int .u64 (A : Int))) rfl (by kernel_rfl) (by kernel_rfl) (by kernel_rfl) (fun _ _ _ h => h) (by assumption) 139 #[.slice (some ⟨g4, 0, none⟩) 4 c4] (by rfl) (fun w => by go_simp) (fun w hSw => KB1.out _ hSw) ?_
                        simp only [Act.put, List.setIfInBounds_toArray, List.set_cons_zero, List.set_cons_succ]
                        refine held_call (i := 15) (oi := { dst := some 64, op := Op.call { callee := Callee.value (Operand.func 138), args := #[Operand.tmp 63], argTypes := #[22] }, type := 23, pos := "ref.go:80", after := #[{ on := 14, ground := Ground.data }, { on := 12, ground := Ground.chain }, { on := 9, ground := Ground.guard }], guard := some (9, false) }) (v := (.int .u32 (X : Int))) rfl (by kernel_rfl) (by kernel_rfl) (by kernel_rfl) (fun _ _ _ h => h) (by assumption) 138 #[.slice (some ⟨g4, 4, none⟩) (L - 4) (c4 - 4)] (by rfl) (fun w => by go_simp) (fun w hSw => KB2.out _ hSw _ (.inl rfl)) ?_
                        simp only [Act.put, List.setIfInBounds_toArray, List.set_cons_zero, List.set_cons_succ]
                        refine wpAnyH_take (i := 16) (oi := { dst := some 65, op := Op.convert 23 142 (Operand.tmp 64), type := 142, pos := "ref.go:80", after := #[{ on := 15, ground := Ground.data }, { on := 9, ground := Ground.guard }], guard := some (9, false) }) (v := ?_) rfl (by kernel_rfl) (by kernel_rfl) (by kernel_rfl) (fun _ _ _ h => h) (Or.inl ⟨by rfl, ?_⟩) (by assumption) ?_
                        rotate_left
                        · (intro w hSw; (try dsimp only at hSw); go_simp; try with_reducible rfl)
                        simp only [Act.put, List.setIfInBounds_toArray, List.set_cons_zero, List.set_cons_succ]
                        refine wpAnyH_take (i := 17) (oi := { dst := some 66, op := Op.binOp BinOp.neq 142 (Operand.tmp 61) (Operand.tmp 65) 142, type := 4, pos := "ref.go:80", after := #[{ on := 12, ground := Ground.data }, { on := 16, ground := Ground.data }, { on := 9, ground := Ground.guard }], guard := some (9, false) }) (v := ?_) rfl (by kernel_rfl) (by kernel_rfl) (by kernel_rfl) (fun _ _ _ h => h) (Or.inl ⟨by rfl, ?_⟩) (by assumption) ?_
                        rotate_left
                        · (intro w hSw; (try dsimp only at hSw); go_simp; try with_reducible rfl)
                        simp only [Act.put, List.setIfInBounds_toArray, List.set_cons_zero, List.set_cons_succ]
                        refine wpAnyH_take (i := 18) (oi := { dst := some 67, op := Op.pick (Operand.tmp 58) (Operand.const (Value.bool true)) (Operand.tmp 66), type := 4, pos := "ref.go:80", after := #[{ on := 9, ground := Ground.data }, { on := 17, ground := Ground.data }], guard := none }) (v := ?_) rfl (by kernel_rfl) (by kernel_rfl) (by kernel_rfl) (fun _ _ _ h => h) (Or.inl ⟨by rfl, ?_⟩) (by assumption) ?_
                        rotate_left
                        · (intro w hSw; (try dsimp only at hSw); go_simp; try with_reducible rfl)
                        simp only [Act.put, List.setIfInBounds_toArray, List.set_cons_zero, List.set_cons_succ]
                        refine wpAnyH_done (by kernel_rfl) ?_ _
                        go_wp2_with fail
                        go_meet
                        exact ⟨congrArg Value.bool HG4.out.symm, md4⟩

                case rest =>
                  obtain ⟨rfl, hm5⟩ := hcut
                  have hw5 := hw4.trans' hm5
                  have HO6 := Lib.hid (HO5.out.mod hm5 (fun _ _ => id))
                  clear md4 hw4 HO5
                  have hg6 := HG5.out
                  by_cases hgd : 4 ≤ L ∧ L ≤ 8196 ∧ A = X
                  · rw [if_pos hgd] at hg6
                    rw [decide_eq_true hgd]
                    have HG6 := Lib.hid hg6
                    have hne : al ≠ [] := by intro e; have := HL.out; rw [e] at this; simp at this; omega
                    obtain ⟨g4, _, cu4, e4, hg4w, hcells, -, -, -, -⟩ := HO6.out.row hne
                    injection e4 with e4 e5 e6
                    subst e4
                    clear e5 e6
                    have l3 : (4 : Int) ≤ (L : Int) := by omega
                    have hcI : (L : Int) ≤ (c4 : Int) := by omega
                    have hbs4 := (OwnB.bytes HO6.out).2
                    have hdl : (al.drop 4).length = L - 4 := by rw [List.length_drop, ← HL.out]
                    have hb : ∀ ax, (ax = (⟨g4, 4, none⟩ : Addr) ∨ L = 4) → BytesAt wc (some ax) (al.drop 4) := fun ax hax => by
                      rcases hax with rfl | h4
                      · have := hbs4.sub 4 (L - 4)
                        rw [Nat.zero_add, List.take_of_length_le (by rw [hdl]; exact Nat.le_refl _)] at this
                        exact this
                      · have hnil : al.drop 4 = [] := List.eq_nil_of_length_eq_zero (by rw [hdl]; omega)
                        rw [hnil]
                        exact BytesAt.nil _ _
                    have HB := Lib.hid hb
                    have HDL := Lib.hid hdl
                    have HCL := Lib.hid hcells
                    clear hg6 hgd hbs4 HG5 hb hdl hcells
                    by_cases hc4 : c4 = 4
                    · obtain rfl : L = 4 := by omega
                      subst hc4
                      clear l3 hcI
                      go_wp2_with fail
                      go_ret3
                      exact ⟨.inr ⟨_, n + 1, g4, 0, _, HG6.out.symm, by rw [HDL.out]; push_cast; rw [Int.add_assoc]; rfl, HB.out _ (by first | exact .inr rfl | exact .inr trivial), ⟨_, _, HCL.out⟩, hg4w⟩, hw5⟩
                    · go_wp2_with fail
                      go_ret3
                      exact ⟨.inr ⟨_, n + 1, g4, 4, _, HG6.out.symm, by rw [HDL.out]; push_cast; rw [Int.add_assoc]; rfl, HB.out _ (.inl rfl), ⟨_, _, HCL.out⟩, hg4w⟩, hw5⟩
                  · rw [if_neg hgd] at hg6
                    rw [decide_eq_false hgd]
                    have HG6 := Lib.hid hg6
                    clear hg6 hgd HG5
                    go_wp2
                    go_ret3
                    exact ⟨.inl ⟨HG6.out.symm, rfl⟩, hw5⟩
            · have hON : O = none := by have := HG3.out; rw [hmm, if_pos rfl] at this; exact this.symm
              have HON := Lib.hid hON
              clear hON hmm HG3 ho3
              go_wp2
              go_ret3
              exact ⟨.inl ⟨HON.out, rfl⟩, hw3⟩
      · have hdf : decide (n < fu) = false := by simpa using hlt
        rw [hdf]
        obtain rfl : n = fu := by omega
        have hON : O = none := by rw [← HGO.out, Nat.sub_self]; rfl
        have HON := Lib.hid hON
        clear hON hdf HGO
        go_wp2
        go_ret3
        exact ⟨.inl ⟨HON.out, rfl⟩, hmd⟩
end Go.Proofs.Ytdinnkacilgmmaa
