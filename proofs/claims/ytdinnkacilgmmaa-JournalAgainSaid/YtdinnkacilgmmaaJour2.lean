/- The journal: where a sector stands; a sector that is right. -/
import Derived.Test.YtdinnkacilgmmaaJour1
namespace Go.Proofs.Ytdinnkacilgmmaa
open Go.RowKit

/-- a ring of a disk's sectors -/
structure Jr where
  frm : Nat
  size : Nat
  start : Nat
  next : Nat
  dead : Bool
def Jr.place (J : Jr) (s : Nat) : Nat := J.frm + (s - 1) % J.size

/-- a journal in memory: block q -/
def JAt (w : World) (q p : Nat) (J : Jr) : Prop :=
  w.heap[q]? = some (.cells #[.pointer (some ⟨p, 0, none⟩), .int .i64 (J.frm : Int), .int .i64 (J.size : Int), .int .i64 (J.start : Int), .int .i64 (J.next : Int), .bool J.dead] 137 (0, 0))

theorem JAt.cell {w : World} {q p : Nat} {J : Jr} (h : JAt w q p J) : w.cell? ⟨q, 0, none⟩ = some (.pointer (some ⟨p, 0, none⟩)) ∧ w.cell? ⟨q, 1, none⟩ = some (.int .i64 (J.frm : Int)) ∧ w.cell? ⟨q, 2, none⟩ = some (.int .i64 (J.size : Int)) ∧
    w.cell? ⟨q, 3, none⟩ = some (.int .i64 (J.start : Int)) ∧ w.cell? ⟨q, 4, none⟩ = some (.int .i64 (J.next : Int)) ∧ w.cell? ⟨q, 5, none⟩ = some (.bool J.dead) := by
  have hc := fun j => cell_of_row w q j _ 137 (0, 0) h
  exact ⟨hc 0, hc 1, hc 2, hc 3, hc 4, hc 5⟩
theorem JAt.mod {F : Nat → Prop} {w w' : World} {q p : Nat} {J : Jr} (h : JAt w q p J) (hm : Mod F w w') (hq : ¬ F q) : JAt w' q p J := hm.obj h hq

set_option maxRecDepth 100000 in
theorem place_any {w : World} {q p : Nat} {J : Jr} (h : JAt w q p J) (s : Nat) (hs1 : 1 ≤ s) (hs2 : s ≤ 2305843009213693952) (hf : J.frm ≤ 4096) (hz1 : 1 ≤ J.size) (hz2 : J.size ≤ 4096) :
    Calls Try.prog 100 #[.pointer (some ⟨q, 0, none⟩), .int .i64 (s : Int)] w fun e w' => e = .returned (.int .i64 (J.place s : Int)) ∧ Mod (fun _ => False) w w' := by
  obtain ⟨-, c1, c2, -⟩ := h.cell
  have hp : (J.place s : Int) = (J.frm : Int) + (((s - 1) % J.size : Nat) : Int) := by unfold Jr.place; omega
  have hlt : (s - 1) % J.size < J.size := Nat.mod_lt _ (by omega)
  have e1 : ((s : Int) - 1).tmod (J.size : Int) = (((s - 1) % J.size : Nat) : Int) := by
    rw [show (s : Int) - 1 = ((s - 1 : Nat) : Int) by omega]; rfl
  obtain ⟨r, hr⟩ : ∃ r : Nat, r = (s - 1) % J.size := ⟨_, rfl⟩
  rw [← hr] at hp hlt e1
  have HP := Lib.hid hp
  have n1 : ¬ (J.size = 0) := by omega
  have w1 : IntKind.i64.wrap ((s : Int) - 1) = (s : Int) - 1 := IntWalk.i64_in _ (by omega)
  have w2 : IntKind.i64.wrap ((r : Nat) : Int) = (r : Int) := IntWalk.i64_in _ (by omega)
  have w3 : IntKind.i64.wrap ((J.frm : Int) + (r : Int)) = (J.frm : Int) + (r : Int) := IntWalk.i64_in _ (by omega)
  clear hp hr
  go_enter Try.func100, Try.ntmps100
  go_wp2_with fail
  go_region_held3 (fun w' => w'.cell? ⟨q, 1, none⟩ = some (.int .i64 (J.frm : Int)) ∧ w'.cell? ⟨q, 2, none⟩ = some (.int .i64 (J.size : Int))) (refine ⟨?_, ?_⟩ <;> simpa using (by assumption)) (fail)
  go_wp2
  go_ret
  exact ⟨ret_val (by show Value.int _ _ = _; rw [HP.out]), Mod.drew _ _⟩

/-- what a sector that is right holds: its flags, its piece -/
def right (b : List UInt8) (s : Nat) : Option (UInt8 × List UInt8) :=
  if unle (b.take 4) = (crc (b.drop 4)).toNat ∧ unle ((b.drop 4).take 8) = s ∧ b.getD 12 0 ≤ 3 ∧ 1 ≤ b.getD 13 0 ∧ b.getD 13 0 ≤ 242 then some (b.getD 12 0, (b.drop 14).take (b.getD 13 0).toNat) else none

/-- what 'at' answers -/
def AtSaid (o : Option (UInt8 × List UInt8)) (H : Nat) (e : Ending) (w' : World) : Prop :=
  (o = none ∧ e = .returned (.tuple #[.int .u8 0, .slice none 0 0, .bool false])) ∨
  ∃ f pc g, o = some (f, pc) ∧ e = .returned (.tuple #[.int .u8 (f.toNat : Int), .slice (some ⟨g, 14, none⟩) pc.length pc.length, .bool true]) ∧ BytesAt w' (some ⟨g, 14, none⟩) pc ∧ H ≤ g

set_option maxHeartbeats 2000000 in
set_option maxRecDepth 100000 in
theorem jat_any {w : World} {B q p : Nat} {J : Jr} {D : Dsk} {F : Nat → Prop} (hj : JAt w q p J) (hd : DiskAt w B p D F) (s : Nat) (hs1 : 1 ≤ s) (hs2 : s ≤ 2305843009213693952) (hf : J.frm ≤ 4096) (hz1 : 1 ≤ J.size) (hz2 : J.size ≤ 4096) (hpl : J.place s < D.N) :
    Calls Try.prog 122 #[.pointer (some ⟨q, 0, none⟩), .int .i64 (s : Int)] w fun e w' => AtSaid (right (sector D.now (J.place s)) s) w.heap.size e w' ∧ Mod (fun _ => False) w w' := by
  obtain ⟨c0, -⟩ := hj.cell
  have hwr : D.wrong (J.place s : Int) = 0 := by unfold Dsk.wrong; rw [if_neg (by omega)]
  have KP : ∀ w', Mod (fun _ => False) w w' → Calls Try.prog 100 #[.pointer (some ⟨q, 0, none⟩), .int .i64 (s : Int)] w' fun e w'' => e = .returned (.int .i64 (J.place s : Int)) ∧ Mod (fun _ => False) w w'' := fun w' hm => (place_any (hj.mod hm id) s hs1 hs2 hf hz1 hz2).mono fun e w'' ⟨he, hm'⟩ => ⟨he, hm.trans' hm'⟩
  have KR : ∀ w', Mod (fun _ => False) w w' → Calls Try.prog 37 #[.pointer (some ⟨p, 0, none⟩), .int .i64 (J.place s : Int)] w' fun e w'' => ∃ v, e = .returned (.tuple #[v, .int .i64 0]) ∧ OwnB w'' w.heap.size v (sector D.now (J.place s)) ∧ Mod (fun _ => False) w w'' ∧ ∀ k, v.ownBlock = some k → w.heap.size ≤ k := fun w' hm => ((hd.mod hm (fun _ _ => id)).read (J.place s : Int) w.heap.size hm.size).mono fun e w'' ⟨v, he, ho, hm', hn⟩ => ⟨v, by rw [he, hwr], by rw [if_pos hwr, Int.toNat_natCast] at ho; exact ho, hm.trans' hm', fun k hk => Nat.le_trans hm.size (hn k hk)⟩
  have hsl : (sector D.now (J.place s)).length = 256 := sector_length _ _ _ (by rw [hd.wf.now]; exact Nat.le_of_eq hd.wf.len.symm) hpl
  replace KP := Lib.hid KP
  replace KR := Lib.hid KR
  have HSL := Lib.hid hsl
  clear hwr hsl hd
  generalize sector D.now (J.place s) = b at *
  obtain ⟨o, ho⟩ : ∃ o, o = right b s := ⟨_, rfl⟩
  rw [← ho]
  have HO1 := Lib.hid ho
  clear ho
  go_enter Try.func122, Try.ntmps122
  go_upto_region 1 with fail
  go_cut [7, 8] (fun v7 v8 wx => ∃ g cap, v7 = .slice (some ⟨g, 0, none⟩) 256 cap ∧ v8 = .int .i64 0 ∧ OwnB wx w.heap.size (.slice (some ⟨g, 0, none⟩) 256 cap) b ∧ Mod (fun _ => False) w wx ∧ 256 ≤ cap ∧ w.heap.size ≤ g)
  case first =>
    have md : Mod (fun _ => False) w w.drew := Mod.drew _ _
    go_region_held3 (fun w' => w'.cell? ⟨q, 0, none⟩ = some (.pointer (some ⟨p, 0, none⟩))) (first | (show _ = _; simpa using c0) | exact hma.cell' c0 id | exact hmb.cell' c0 id)
      (first
        | (go_at_call 100; refine (KP.out _ md).mono ?_; rintro e wa ⟨rfl, hma⟩)
        | (go_at_call 37; refine (KR.out _ (by assumption)).mono ?_; rintro e wb ⟨v, rfl, hob, hmb, hnb⟩))
    go_wp2_with fail
    go_meet
    obtain ⟨g, cap, _, ev, -, -, hle, -⟩ := hob.row (by intro e; have := HSL.out; rw [e] at this; cases this)
    rw [HSL.out] at ev hle
    subst ev
    exact ⟨g, cap, rfl, rfl, hob, hmb, hle, hnb g rfl⟩
  case rest =>
    obtain ⟨g, cap, rfl, rfl, hob, hm, hcap, hg⟩ := hcut
    have hbs := (OwnB.bytes hob).2
    have e1 : (b.drop 0).take 4 = b.take 4 := by rw [List.drop_zero]
    have e2 : (b.drop 4).take 252 = b.drop 4 := List.take_of_length_le (by rw [List.length_drop, HSL.out]; decide)
    have b1 := hbs.sub 0 4
    have b2 := hbs.sub 4 252
    have b3 := hbs.sub 4 8
    rw [e1] at b1
    rw [e2] at b2
    have KB1 : ∀ w', Mod (fun _ => False) wc w' → Calls Try.prog 123 #[.slice (some ⟨g, 0, none⟩) 4 cap] w' fun e w'' => e = .returned (.int .u64 (unle (b.take 4) : Int)) ∧ w' = w'' := fun w' hm' => by
      have := back_any (some ⟨g, 0, none⟩) (b.take 4) cap w' (b1.mod hm' (fun _ _ _ => id)) (by rw [List.length_take]; omega)
      rwa [List.length_take, HSL.out] at this
    have KS : ∀ w', Mod (fun _ => False) wc w' → Calls Try.prog 27 #[.slice (some ⟨g, 4, none⟩) 252 (cap - 4)] w' fun e w'' => e = .returned (.int .u32 ((crc (b.drop 4)).toNat : Int)) ∧ w' = w'' := fun w' hm' =>
      sum_n _ (b.drop 4) 252 _ w' (by rw [List.length_drop, HSL.out]) (by rw [List.length_drop, HSL.out]; decide) (by rw [Nat.zero_add] at b2; exact b2.mod hm' (fun _ _ _ => id))
    have KB2 : ∀ w', Mod (fun _ => False) wc w' → Calls Try.prog 123 #[.slice (some ⟨g, 4, none⟩) 8 (cap - 4)] w' fun e w'' => e = .returned (.int .u64 (unle ((b.drop 4).take 8) : Int)) ∧ w' = w'' := fun w' hm' => by
      rw [Nat.zero_add] at b3
      have := back_any (some ⟨g, 4, none⟩) ((b.drop 4).take 8) (cap - 4) w' (b3.mod hm' (fun _ _ _ => id)) (by rw [List.length_take]; omega)
      rwa [List.length_take, List.length_drop, HSL.out] at this
    replace KB1 := Lib.hid KB1
    replace KS := Lib.hid KS
    replace KB2 := Lib.hid KB2
    clear hbs b1 b2 b3 e1 e2 c0 KP KR
    have hSlt := (crc (b.drop 4)).isLt
    have ho := HO1.out
    unfold right at ho
    generalize unle (b.take 4) = A at *
    generalize (crc (b.drop 4)).toNat = S at *
    generalize unle ((b.drop 4).take 8) = X at *
    have HO := Lib.hid ho
    clear ho HO1
    have x12 := (hob.cellAt 12 (by rw [HSL.out]; decide)).1
    have x13 := (hob.cellAt 13 (by rw [HSL.out]; decide)).1
    have hg12 : b.getD 12 0 = b[12]'(by rw [HSL.out]; decide) := by simp [List.getD_eq_getElem?_getD, List.getElem?_eq_getElem (show 12 < b.length by rw [HSL.out]; decide)]
    have hg13 : b.getD 13 0 = b[13]'(by rw [HSL.out]; decide) := by simp [List.getD_eq_getElem?_getD, List.getElem?_eq_getElem (show 13 < b.length by rw [HSL.out]; decide)]
    rw [← hg12] at x12
    rw [← hg13] at x13
    clear hg12 hg13
    generalize b.getD 12 0 = f at *
    generalize b.getD 13 0 = n at *
    have HOB := Lib.hid hob
    have HM := Lib.hid hm
    clear hob
    have hcap4 : (4 : Int) ≤ (cap : Int) := by omega
    have hcap12 : (12 : Int) ≤ (cap : Int) := by omega
    have hcapn : ¬ (cap = 4) := by omega
    go_upto_region 2 with fail
    go_cut [40] (fun v40 wx => v40 = .bool (!(decide (A = S) && decide (X = s))) ∧ Mod (fun _ => False) wc wx)
    case first =>
      have md : Mod (fun _ => False) wc wc.drew := Mod.drew _ _
      have wS : IntKind.u64.wrap (S : Int) = (S : Int) := IntWalk.u64_in _ (by omega)
      have ws : IntKind.u64.wrap (s : Int) = (s : Int) := IntWalk.u64_in _ (by omega)
      by_cases hA : A = S
      · have hA' : ((A : Int) != (S : Int)) = false := by rw [bne_eq_false_iff_eq]; omega
        by_cases hX : X = s
        · have hX' : ((X : Int) != (s : Int)) = false := by rw [bne_eq_false_iff_eq]; omega
          have HR : (!(decide (A = S) && decide (X = s))) = false := by simp [hA, hX]
          have HR2 := Lib.hid HR
          clear hA hX HR
          go_region_held3 (fun w' => Mod (fun _ => False) wc w') (assumption)
            (first
              | (go_at_call 123; (with_reducible refine (KB1.out _ (by assumption)).mono ?_); rintro e w' ⟨rfl, rfl⟩)
              | (go_at_call 27; (with_reducible refine (KS.out _ (by assumption)).mono ?_); rintro e w' ⟨rfl, rfl⟩)
              | (go_at_call 123; (with_reducible refine (KB2.out _ (by assumption)).mono ?_); rintro e w' ⟨rfl, rfl⟩))
          go_wp2_with fail
          go_meet
          exact ⟨congrArg Value.bool HR2.out.symm, md⟩
        · have hX' : ((X : Int) != (s : Int)) = true := by rw [bne_iff_ne]; omega
          have HR : (!(decide (A = S) && decide (X = s))) = true := by simp [hA, hX]
          have HR2 := Lib.hid HR
          clear hA hX HR
          go_region_held3 (fun w' => Mod (fun _ => False) wc w') (assumption)
            (first
              | (go_at_call 123; (with_reducible refine (KB1.out _ (by assumption)).mono ?_); rintro e w' ⟨rfl, rfl⟩)
              | (go_at_call 27; (with_reducible refine (KS.out _ (by assumption)).mono ?_); rintro e w' ⟨rfl, rfl⟩)
              | (go_at_call 123; (with_reducible refine (KB2.out _ (by assumption)).mono ?_); rintro e w' ⟨rfl, rfl⟩))
          go_wp2_with fail
          go_meet
          exact ⟨congrArg Value.bool HR2.out.symm, md⟩
      · have hA' : ((A : Int) != (S : Int)) = true := by rw [bne_iff_ne]; omega
        have HR : (!(decide (A = S) && decide (X = s))) = true := by simp [hA]
        have HR2 := Lib.hid HR
        clear hA HR
        refine wp_region_held_drew (S := fun w' => Mod (fun _ => False) wc w') (by kernel_rfl) (md) (fun hHeld => ?_)
        refine wpAnyH_take (i := 0) (oi := { dst := some 21, op := Op.move (Operand.tmp 8), type := 32, pos := "journal.go:61", after := #[], guard := none }) (v := ?_) rfl (by kernel_rfl) (by kernel_rfl) (by kernel_rfl) (fun _ _ _ h => h) (Or.inl ⟨by rfl, ?_⟩) (by assumption) ?_
        rotate_left
        · (intro w hSw; (try dsimp only at hSw); go_simp; try with_reducible rfl)
        simp only [Act.put, List.setIfInBounds_toArray, List.set_cons_zero, List.set_cons_succ]
        refine wpAnyH_take (i := 1) (oi := { dst := some 22, op := Op.binOp BinOp.neq 32 (Operand.tmp 21) (Operand.const (Value.int IntKind.i64 0)) 32, type := 4, pos := "journal.go:61", after := #[{ on := 0, ground := Ground.data }], guard := none }) (v := ?_) rfl (by kernel_rfl) (by kernel_rfl) (by kernel_rfl) (fun _ _ _ h => h) (Or.inl ⟨by rfl, ?_⟩) (by assumption) ?_
        rotate_left
        · (intro w hSw; (try dsimp only at hSw); go_simp; try with_reducible rfl)
        simp only [Act.put, List.setIfInBounds_toArray, List.set_cons_zero, List.set_cons_succ]
        refine wpAnyH_take (i := 2) (oi := { dst := some 23, op := Op.move (Operand.tmp 22), type := 4, pos := "journal.go:61", after := #[{ on := 1, ground := Ground.data }], guard := none }) (v := ?_) rfl (by kernel_rfl) (by kernel_rfl) (by kernel_rfl) (fun _ _ _ h => h) (Or.inl ⟨by rfl, ?_⟩) (by assumption) ?_
        rotate_left
        · (intro w hSw; (try dsimp only at hSw); go_simp; try with_reducible rfl)
        simp only [Act.put, List.setIfInBounds_toArray, List.set_cons_zero, List.set_cons_succ]
        refine wpAnyH_take (i := 3) (oi := { dst := some 24, op := Op.move (Operand.tmp 7), type := 22, pos := "journal.go:61", after := #[{ on := 2, ground := Ground.guard }], guard := some (2, false) }) (v := ?_) rfl (by kernel_rfl) (by kernel_rfl) (by kernel_rfl) (fun _ _ _ h => h) (Or.inl ⟨by rfl, ?_⟩) (by assumption) ?_
        rotate_left
        · (intro w hSw; (try dsimp only at hSw); go_simp; try with_reducible rfl)
        simp only [Act.put, List.setIfInBounds_toArray, List.set_cons_zero, List.set_cons_succ]
        refine wpAnyH_take (i := 4) (oi := { dst := some 25, op := Op.slice 22 (Operand.tmp 24) none (some (Operand.const (Value.int IntKind.i64 4))) none, type := 22, pos := "journal.go:61", after := #[{ on := 3, ground := Ground.data }, { on := 2, ground := Ground.guard }], guard := some (2, false) }) (v := ?_) rfl (by kernel_rfl) (by kernel_rfl) (by kernel_rfl) (fun _ _ _ h => h) (Or.inl ⟨by rfl, ?_⟩) (by assumption) ?_
        rotate_left
        · (intro w hSw; (try dsimp only at hSw); go_simp; try with_reducible rfl)
        simp only [Act.put, List.setIfInBounds_toArray, List.set_cons_zero, List.set_cons_succ]
        refine wpAnyH_take (i := 6) (oi := { dst := some 27, op := Op.move (Operand.tmp 7), type := 22, pos := "journal.go:61", after := #[{ on := 2, ground := Ground.guard }], guard := some (2, false) }) (v := ?_) rfl (by kernel_rfl) (by kernel_rfl) (by kernel_rfl) (fun _ _ _ h => h) (Or.inl ⟨by rfl, ?_⟩) (by assumption) ?_
        rotate_left
        · (intro w hSw; (try dsimp only at hSw); go_simp; try with_reducible rfl)
        simp only [Act.put, List.setIfInBounds_toArray, List.set_cons_zero, List.set_cons_succ]
        refine wpAnyH_take (i := 7) (oi := { dst := some 28, op := Op.slice 22 (Operand.tmp 27) (some (Operand.const (Value.int IntKind.i64 4))) none none, type := 22, pos := "journal.go:61", after := #[{ on := 6, ground := Ground.data }, { on := 2, ground := Ground.guard }], guard := some (2, false) }) (v := ?_) rfl (by kernel_rfl) (by kernel_rfl) (by kernel_rfl) (fun _ _ _ h => h) (Or.inl ⟨by rfl, ?_⟩) (by assumption) ?_
        rotate_left
        · (intro w hSw; (try dsimp only at hSw); go_simp; try with_reducible rfl)
        simp only [Act.put, List.setIfInBounds_toArray, List.set_cons_zero, List.set_cons_succ]
        refine held_call (i := 5) (oi := { dst := some 26, op := Op.call { callee := Callee.value (Operand.func 123), args := #[Operand.tmp 25], argTypes := #[22] }, type := 142, pos := "journal.go:61", after := #[{ on := 4, ground := Ground.data }, { on := 2, ground := Ground.chain }, { on := 2, ground := Ground.guard }], guard := some (2, false) }) (v := (.int .u64 (A : Int))) rfl (by kernel_rfl) (by kernel_rfl) (by kernel_rfl) (fun _ _ _ h => h) (by assumption) 123 #[.slice (some ⟨g, 0, none⟩) 4 cap] (by rfl) (fun w => by go_simp) (fun w hSw => KB1.out _ hSw) ?_
        simp only [Act.put, List.setIfInBounds_toArray, List.set_cons_zero, List.set_cons_succ]
        refine held_call (i := 8) (oi := { dst := some 29, op := Op.call { callee := Callee.value (Operand.func 27), args := #[Operand.tmp 28], argTypes := #[22] }, type := 23, pos := "journal.go:61", after := #[{ on := 7, ground := Ground.data }, { on := 5, ground := Ground.chain }, { on := 2, ground := Ground.guard }], guard := some (2, false) }) (v := (.int .u32 (S : Int))) rfl (by kernel_rfl) (by kernel_rfl) (by kernel_rfl) (fun _ _ _ h => h) (by assumption) 27 #[.slice (some ⟨g, 4, none⟩) 252 (cap - 4)] (by rfl) (fun w => by go_simp) (fun w hSw => KS.out _ hSw) ?_
        simp only [Act.put, List.setIfInBounds_toArray, List.set_cons_zero, List.set_cons_succ]
        refine wpAnyH_take (i := 9) (oi := { dst := some 30, op := Op.convert 23 142 (Operand.tmp 29), type := 142, pos := "journal.go:61", after := #[{ on := 8, ground := Ground.data }, { on := 2, ground := Ground.guard }], guard := some (2, false) }) (v := ?_) rfl (by kernel_rfl) (by kernel_rfl) (by kernel_rfl) (fun _ _ _ h => h) (Or.inl ⟨by rfl, ?_⟩) (by assumption) ?_
        rotate_left
        · (intro w hSw; (try dsimp only at hSw); go_simp; try with_reducible rfl)
        simp only [Act.put, List.setIfInBounds_toArray, List.set_cons_zero, List.set_cons_succ]
        refine wpAnyH_take (i := 10) (oi := { dst := some 31, op := Op.binOp BinOp.neq 142 (Operand.tmp 26) (Operand.tmp 30) 142, type := 4, pos := "journal.go:61", after := #[{ on := 5, ground := Ground.data }, { on := 9, ground := Ground.data }, { on := 2, ground := Ground.guard }], guard := some (2, false) }) (v := ?_) rfl (by kernel_rfl) (by kernel_rfl) (by kernel_rfl) (fun _ _ _ h => h) (Or.inl ⟨by rfl, ?_⟩) (by assumption) ?_
        rotate_left
        · (intro w hSw; (try dsimp only at hSw); go_simp; try with_reducible rfl)
        simp only [Act.put, List.setIfInBounds_toArray, List.set_cons_zero, List.set_cons_succ]
        refine wpAnyH_take (i := 11) (oi := { dst := some 32, op := Op.pick (Operand.tmp 23) (Operand.const (Value.bool true)) (Operand.tmp 31), type := 4, pos := "journal.go:61", after := #[{ on := 2, ground := Ground.data }, { on := 10, ground := Ground.data }], guard := none }) (v := ?_) rfl (by kernel_rfl) (by kernel_rfl) (by kernel_rfl) (fun _ _ _ h => h) (Or.inl ⟨by rfl, ?_⟩) (by assumption) ?_
        rotate_left
        · (intro w hSw; (try dsimp only at hSw); go_simp; try with_reducible rfl)
        simp only [Act.put, List.setIfInBounds_toArray, List.set_cons_zero, List.set_cons_succ]
        refine wpAnyH_take (i := 12) (oi := { dst := some 33, op := Op.move (Operand.tmp 32), type := 4, pos := "journal.go:61", after := #[{ on := 11, ground := Ground.data }, { on := 8, ground := Ground.chain }], guard := none }) (v := ?_) rfl (by kernel_rfl) (by kernel_rfl) (by kernel_rfl) (fun _ _ _ h => h) (Or.inl ⟨by rfl, ?_⟩) (by assumption) ?_
        rotate_left
        · (intro w hSw; (try dsimp only at hSw); go_simp; try with_reducible rfl)
        simp only [Act.put, List.setIfInBounds_toArray, List.set_cons_zero, List.set_cons_succ]
        refine wpAnyH_take (i := 13) (oi := { dst := some 34, op := Op.move (Operand.tmp 7), type := 22, pos := "journal.go:61", after := #[{ on := 12, ground := Ground.guard }], guard := some (12, false) }) (v := undef) rfl (by kernel_rfl) (by kernel_rfl) (by kernel_rfl) (fun _ _ _ h => h) (Or.inr ⟨by rfl, rfl⟩) (by assumption) ?_
        simp only [Act.put, List.setIfInBounds_toArray, List.set_cons_zero, List.set_cons_succ]
        refine wpAnyH_take (i := 14) (oi := { dst := some 35, op := Op.slice 22 (Operand.tmp 34) (some (Operand.const (Value.int IntKind.i64 4))) (some (Operand.const (Value.int IntKind.i64 12))) none, type := 22, pos := "journal.go:61", after := #[{ on := 13, ground := Ground.data }, { on := 12, ground := Ground.guard }], guard := some (12, false) }) (v := undef) rfl (by kernel_rfl) (by kernel_rfl) (by kernel_rfl) (fun _ _ _ h => h) (Or.inr ⟨by rfl, rfl⟩) (by assumption) ?_
        simp only [Act.put, List.setIfInBounds_toArray, List.set_cons_zero, List.set_cons_succ]
        refine wpAnyH_take (i := 15) (oi := { dst := some 36, op := Op.call { callee := Callee.value (Operand.func 123), args := #[Operand.tmp 35], argTypes := #[22] }, type := 142, pos := "journal.go:61", after := #[{ on := 14, ground := Ground.data }, { on := 12, ground := Ground.chain }, { on := 12, ground := Ground.guard }], guard := some (12, false) }) (v := undef) rfl (by kernel_rfl) (by kernel_rfl) (by kernel_rfl) (fun _ _ _ h => h) (Or.inr ⟨by rfl, rfl⟩) (by assumption) ?_
        simp only [Act.put, List.setIfInBounds_toArray, List.set_cons_zero, List.set_cons_succ]
        refine wpAnyH_take (i := 16) (oi := { dst := some 37, op := Op.move (Operand.tmp 1), type := 2, pos := "journal.go:61", after := #[{ on := 12, ground := Ground.guard }], guard := some (12, false) }) (v := undef) rfl (by kernel_rfl) (by kernel_rfl) (by kernel_rfl) (fun _ _ _ h => h) (Or.inr ⟨by rfl, rfl⟩) (by assumption) ?_
        simp only [Act.put, List.setIfInBounds_toArray, List.set_cons_zero, List.set_cons_succ]
        refine wpAnyH_take (i := 17) (oi := { dst := some 38, op := Op.convert 2 142 (Operand.tmp 37), type := 142, pos := "journal.go:61", after := #[{ on := 16, ground := Ground.data }, { on := 12, ground := Ground.guard }], guard := some (12, false) }) (v := undef) rfl (by kernel_rfl) (by kernel_rfl) (by kernel_rfl) (fun _ _ _ h => h) (Or.inr ⟨by rfl, rfl⟩) (by assumption) ?_
        simp only [Act.put, List.setIfInBounds_toArray, List.set_cons_zero, List.set_cons_succ]
        refine wpAnyH_take (i := 18) (oi := { dst := some 39, op := Op.binOp BinOp.neq 142 (Operand.tmp 36) (Operand.tmp 38) 142, type := 4, pos := "journal.go:61", after := #[{ on := 15, ground := Ground.data }, { on := 17, ground := Ground.data }, { on := 12, ground := Ground.guard }], guard := some (12, false) }) (v := undef) rfl (by kernel_rfl) (by kernel_rfl) (by kernel_rfl) (fun _ _ _ h => h) (Or.inr ⟨by rfl, rfl⟩) (by assumption) ?_
        simp only [Act.put, List.setIfInBounds_toArray, List.set_cons_zero, List.set_cons_succ]
        refine wpAnyH_take (i := 19) (oi := { dst := some 40, op := Op.pick (Operand.tmp 33) (Operand.const (Value.bool true)) (Operand.tmp 39), type := 4, pos := "journal.go:61", after := #[{ on := 12, ground := Ground.data }, { on := 18, ground := Ground.data }], guard := none }) (v := ?_) rfl (by kernel_rfl) (by kernel_rfl) (by kernel_rfl) (fun _ _ _ h => h) (Or.inl ⟨by rfl, ?_⟩) (by assumption) ?_
        rotate_left
        · (intro w hSw; (try dsimp only at hSw); go_simp; try with_reducible rfl)
        simp only [Act.put, List.setIfInBounds_toArray, List.set_cons_zero, List.set_cons_succ]
        refine wpAnyH_done (by kernel_rfl) ?_ _
        go_wp2_with fail
        go_meet
        exact ⟨congrArg Value.bool HR2.out.symm, md⟩
    case rest =>
      obtain ⟨rfl, hm2⟩ := hcut
      clear KB1 KB2 KS
      have z12 := hm2.cell' x12 id
      have z13 := hm2.cell' x13 id
      have hmm := HM.out.trans' hm2
      have hob2 := HOB.out.mod hm2 (fun _ _ => id)
      have HMM := Lib.hid hmm
      have HOB2 := Lib.hid hob2
      clear x12 x13 hm2 hmm hob2 HOB HM hm hj
      by_cases hAX : A = S ∧ X = s
      · have HV : (!(decide (A = S) && decide (X = s))) = false := by simp [hAX]
        rw [HV]
        have hfl : f.toNat < 256 := f.toNat_lt
        have hnl : n.toNat < 256 := n.toNat_lt
        by_cases c1 : (3 : Int) < (f.toNat : Int)
        · have hn : o = none := by rw [HO.out, if_neg (by rintro ⟨-, -, h, -⟩; rw [UInt8.le_iff_toNat_le] at h; have h' : f.toNat ≤ 3 := h; omega)]
          have HN := Lib.hid hn
          clear hn hAX HV
          go_wp2
          go_ret3
          exact ⟨.inl ⟨HN.out, rfl⟩, HMM.out⟩
        · by_cases c2 : (n.toNat : Int) < 1
          · have hn : o = none := by rw [HO.out, if_neg (by rintro ⟨-, -, -, h, -⟩; rw [UInt8.le_iff_toNat_le] at h; have h' : 1 ≤ n.toNat := h; omega)]
            have HN := Lib.hid hn
            clear hn hAX HV
            go_wp2
            go_ret3
            exact ⟨.inl ⟨HN.out, rfl⟩, HMM.out⟩
          · by_cases c3 : (242 : Int) < (n.toNat : Int)
            · have hn : o = none := by rw [HO.out, if_neg (by rintro ⟨-, -, -, -, h⟩; rw [UInt8.le_iff_toNat_le] at h; have h' : n.toNat ≤ 242 := h; omega)]
              have HN := Lib.hid hn
              clear hn hAX HV
              go_wp2
              go_ret3
              exact ⟨.inl ⟨HN.out, rfl⟩, HMM.out⟩
            · have hn : o = some (f, (b.drop 14).take n.toNat) := by
                rw [HO.out, if_pos]
                refine ⟨hAX.1, hAX.2, ?_, ?_, ?_⟩ <;> rw [UInt8.le_iff_toNat_le]
                · show f.toNat ≤ 3; omega
                · show 1 ≤ n.toNat; omega
                · show n.toNat ≤ 242; omega
              have hpl : ((b.drop 14).take n.toNat).length = n.toNat := by rw [List.length_take, List.length_drop, HSL.out]; omega
              have hbp := (OwnB.bytes HOB2.out).2.sub 14 n.toNat
              rw [Nat.zero_add] at hbp
              have HN := Lib.hid hn
              have HPL := Lib.hid hpl
              have HBP := Lib.hid hbp
              clear hn hAX HV hpl hbp
              go_upto_region 7 with fail
              have d12 : wc.drew.cell? ⟨g, 12, none⟩ = some (byteV f) := by simpa using z12
              have k1 : (0 : Int) ≤ 14 + (n.toNat : Int) := by omega
              have k2 : (14 : Int) + (n.toNat : Int) ≤ (cap : Int) := by omega
              have k3 : (14 : Int) ≤ 14 + (n.toNat : Int) := by omega
              have k4 : ((14 : Int) + (n.toNat : Int)).toNat = 14 + n.toNat := by omega
              have k5 : ¬ (14 + n.toNat = 14) := by omega
              have k7 : ¬ (cap = 14) := by omega
              have k8 : ¬ (n.toNat = 0) := by omega
              have k6 : IntKind.i64.wrap (14 + (n.toNat : Int)) = 14 + (n.toNat : Int) := IntWalk.i64_in _ (by omega)
              go_region_held3 (fun w' => w'.cell? ⟨g, 12, none⟩ = some (byteV f)) (first | assumption) (fail)
              clear k6
              have md : Mod (fun _ => False) wc wc.drew := Mod.drew _ _
              go_wp2
              go_ret3
              exact ⟨.inr ⟨f, _, g, HN.out, by rw [HPL.out]; rfl, HBP.out.mod md (fun _ _ _ => id), hg⟩, HMM.out.trans' md⟩
      · have HV : (!(decide (A = S) && decide (X = s))) = true := by
          by_cases hA : A = S
          · have hX : ¬ X = s := fun e => hAX ⟨hA, e⟩
            simp [hA, hX]
          · simp [hA]
        have hn : o = none := by rw [HO.out, if_neg (by rintro ⟨h1, h2, -⟩; exact hAX ⟨h1, h2⟩)]
        have HN := Lib.hid hn
        rw [HV]
        clear hn hAX HV
        go_wp2
        go_ret3
        exact ⟨.inl ⟨HN.out, rfl⟩, HMM.out⟩
end Go.Proofs.Ytdinnkacilgmmaa
