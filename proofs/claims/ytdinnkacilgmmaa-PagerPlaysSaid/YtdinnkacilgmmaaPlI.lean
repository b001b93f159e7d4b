/- What RowPagerPlays needs, part 9. -/
import Derived.Test.YtdinnkacilgmmaaPlH
namespace Go.Proofs.Ytdinnkacilgmmaa
open Go.RowKit

section
variable {w : World} {B B2 q r : Nat} {vi vm : Value} {P : Pgr} {D : Dsk} {F : Nat → Prop}

set_option maxHeartbeats 2000000 in
set_option maxRecDepth 100000 in
theorem rpread_any (hp : RPg w B q r vi vm P) (hd : RDiskAt w B2 r D F) (hfit : P.frm + 2 + P.pages ≤ D.N) (hlim : D.l.length ≤ 1048576) (n : Int) :
    Calls Try.prog 120 #[.pointer (some ⟨q, 0, none⟩), .int .i64 n] w fun e w' => ∃ v, e = .returned (.tuple #[v, .int .i64 (P.read D n).2]) ∧ ViewAt w' w.heap.size v (P.read D n).1 ∧ Mod (fun _ => False) w w' := by
  obtain ⟨o, ho⟩ : ∃ o, o = P.read D n := ⟨_, rfl⟩
  rw [← ho]
  have top := hd.wf.top
  have KT := rthere_any hp n
  have HO := Lib.hid ho
  clear ho
  by_cases ht : P.there n = true
  · have ht' : 0 ≤ n ∧ n < (P.pages : Int) := of_decide_eq_true ht
    obtain ⟨m, rfl⟩ : ∃ m : Nat, n = (m : Int) := ⟨n.toNat, by omega⟩
    have hn : P.frm + 2 + m < D.N := by omega
    have hwr : D.wrong ((P.frm : Int) + 2 + (m : Int)) = 0 := by unfold Dsk.wrong; rw [if_neg (by omega)]
    have KR : ∀ w', Mod (fun _ => False) w w' → Calls Try.prog 94 #[.pointer (some ⟨r, 0, none⟩), .int .i64 ((P.frm : Int) + 2 + (m : Int))] w' fun e w'' => ∃ v, e = .returned (.tuple #[v, .int .i64 0]) ∧ OwnB w'' w.heap.size v (sector D.now (P.frm + 2 + m)) ∧ Mod (fun _ => False) w w'' := fun w' hm =>
      ((hd.mod hm (fun _ _ => id)).read ((P.frm : Int) + 2 + (m : Int)) w.heap.size hm.size hlim).mono fun e w'' ⟨v, he, ho, hm', _⟩ => ⟨v, by rw [he, hwr], by rw [hwr, if_pos rfl, show ((P.frm : Int) + 2 + (m : Int)).toNat = P.frm + 2 + m by omega] at ho; exact ho, hm.trans' hm'⟩
    have hsl : (sector D.now (P.frm + 2 + m)).length = 256 := sector_length _ _ _ (by rw [hd.wf.now]; exact Nat.le_of_eq hd.wf.len.symm) hn
    have ho2 := HO.out
    unfold Pgr.read at ho2
    rw [if_pos ht, Int.toNat_natCast] at ho2
    rw [ht] at KT
    obtain ⟨c0, c1, -, -⟩ := hp.cells
    replace KR := Lib.hid KR
    replace KT := Lib.hid KT
    have HSL := Lib.hid hsl
    have HO2 := Lib.hid ho2
    have w1 : IntKind.i64.wrap ((P.frm : Int) + 2) = (P.frm : Int) + 2 := IntWalk.i64_in _ (by omega)
    have w2 : IntKind.i64.wrap ((P.frm : Int) + 2 + (m : Int)) = (P.frm : Int) + 2 + (m : Int) := IntWalk.i64_in _ (by omega)
    clear hwr hsl hd hp ho2 HO ht ht'
    generalize sector D.now (P.frm + 2 + m) = s at *
    have CS : ∀ w', Mod (fun _ => False) w w' → w'.cell? ⟨q, 0, none⟩ = some (.pointer (some ⟨r, 0, none⟩)) ∧ w'.cell? ⟨q, 1, none⟩ = some (.int .i64 (P.frm : Int)) := fun w' hm => ⟨hm.cell' c0 id, hm.cell' c1 id⟩
    go_enter Try.func120, Try.ntmps120
    go_wp2_with fail
    refine KT.out.mono ?_
    rintro e wb ⟨rfl, rfl⟩
    go_upto_region 3 with fail
    go_cut [6] (fun v6 wx => ∃ v, v6 = v ∧ OwnB wx w.heap.size v s ∧ Mod (fun _ => False) w wx)
    case first =>
      have mdr : Mod (fun _ => False) w w.drew := Mod.drew _ _
      refine wp_region_held_drew (S := fun w' => w'.cell? ⟨q, 0, none⟩ = some (.pointer (some ⟨r, 0, none⟩)) ∧ w'.cell? ⟨q, 1, none⟩ = some (.int .i64 (P.frm : Int))) (by kernel_rfl) (CS _ mdr) (fun hHeld => ?_)
      refine wpAnyH_take (i := 0) (oi := ⟨some 13, .move (.tmp 0), 116, "ref.go:136", #[], none⟩) (v := ?_) rfl (by kernel_rfl) (by kernel_rfl) (by kernel_rfl) (fun _ _ _ h => h) (Or.inl ⟨by rfl, ?_⟩) (by assumption) ?_
      rotate_left
      · (intro w hSw; (try dsimp only at hSw); go_simp; try with_reducible rfl)
      simp only [Act.put, List.setIfInBounds_toArray, List.set_cons_zero, List.set_cons_succ]
      refine wpAnyH_take (i := 1) (oi := ⟨some 14, .nilCheck (.tmp 13), 0, "ref.go:136", #[⟨0, .data⟩], none⟩) (v := ?_) rfl (by kernel_rfl) (by kernel_rfl) (by kernel_rfl) (fun _ _ _ h => h) (Or.inl ⟨by rfl, ?_⟩) (by assumption) ?_
      rotate_left
      · (intro w hSw; (try dsimp only at hSw); go_simp; try with_reducible rfl)
      simp only [Act.put, List.setIfInBounds_toArray, List.set_cons_zero, List.set_cons_succ]
      refine wpAnyH_take (i := 2) (oi := ⟨some 15, .fieldAddr 164 (.tmp 14) 0, 0, "ref.go:136", #[⟨1, .data⟩], none⟩) (v := ?_) rfl (by kernel_rfl) (by kernel_rfl) (by kernel_rfl) (fun _ _ _ h => h) (Or.inl ⟨by rfl, ?_⟩) (by assumption) ?_
      rotate_left
      · (intro w hSw; (try dsimp only at hSw); go_simp; try with_reducible rfl)
      simp only [Act.put, List.setIfInBounds_toArray, List.set_cons_zero, List.set_cons_succ]
      refine wpAnyH_take (i := 3) (oi := ⟨some 16, .load 60 (.tmp 15), 60, "ref.go:136", #[⟨2, .data⟩], none⟩) (v := ?_) rfl (by kernel_rfl) (by kernel_rfl) (by kernel_rfl) (fun _ _ _ h => h) (Or.inl ⟨by rfl, ?_⟩) (by assumption) ?_
      rotate_left
      · (intro w hSw; (try dsimp only at hSw); go_simp; try with_reducible rfl)
      simp only [Act.put, List.setIfInBounds_toArray, List.set_cons_zero, List.set_cons_succ]
      refine wpAnyH_take (i := 4) (oi := ⟨some 17, .move (.tmp 0), 116, "ref.go:136", #[], none⟩) (v := ?_) rfl (by kernel_rfl) (by kernel_rfl) (by kernel_rfl) (fun _ _ _ h => h) (Or.inl ⟨by rfl, ?_⟩) (by assumption) ?_
      rotate_left
      · (intro w hSw; (try dsimp only at hSw); go_simp; try with_reducible rfl)
      simp only [Act.put, List.setIfInBounds_toArray, List.set_cons_zero, List.set_cons_succ]
      refine wpAnyH_take (i := 5) (oi := ⟨some 18, .nilCheck (.tmp 17), 0, "ref.go:136", #[⟨4, .data⟩], none⟩) (v := ?_) rfl (by kernel_rfl) (by kernel_rfl) (by kernel_rfl) (fun _ _ _ h => h) (Or.inl ⟨by rfl, ?_⟩) (by assumption) ?_
      rotate_left
      · (intro w hSw; (try dsimp only at hSw); go_simp; try with_reducible rfl)
      simp only [Act.put, List.setIfInBounds_toArray, List.set_cons_zero, List.set_cons_succ]
      refine wpAnyH_take (i := 6) (oi := ⟨some 19, .fieldAddr 164 (.tmp 18) 1, 0, "ref.go:136", #[⟨5, .data⟩], none⟩) (v := ?_) rfl (by kernel_rfl) (by kernel_rfl) (by kernel_rfl) (fun _ _ _ h => h) (Or.inl ⟨by rfl, ?_⟩) (by assumption) ?_
      rotate_left
      · (intro w hSw; (try dsimp only at hSw); go_simp; try with_reducible rfl)
      simp only [Act.put, List.setIfInBounds_toArray, List.set_cons_zero, List.set_cons_succ]
      refine wpAnyH_take (i := 7) (oi := ⟨some 20, .load 3 (.tmp 19), 3, "ref.go:136", #[⟨6, .data⟩], none⟩) (v := ?_) rfl (by kernel_rfl) (by kernel_rfl) (by kernel_rfl) (fun _ _ _ h => h) (Or.inl ⟨by rfl, ?_⟩) (by assumption) ?_
      rotate_left
      · (intro w hSw; (try dsimp only at hSw); go_simp; try with_reducible rfl)
      simp only [Act.put, List.setIfInBounds_toArray, List.set_cons_zero, List.set_cons_succ]
      refine wpAnyH_take (i := 8) (oi := ⟨some 21, .binOp .add 3 (.tmp 20) (.const (.int .i64 2)) 3, 3, "ref.go:136", #[⟨7, .data⟩], none⟩) (v := ?_) rfl (by kernel_rfl) (by kernel_rfl) (by kernel_rfl) (fun _ _ _ h => h) (Or.inl ⟨by rfl, ?_⟩) (by assumption) ?_
      rotate_left
      · (intro w hSw; (try dsimp only at hSw); go_simp; try with_reducible rfl)
      simp only [Act.put, List.setIfInBounds_toArray, List.set_cons_zero, List.set_cons_succ]
      refine wpAnyH_take (i := 9) (oi := ⟨some 22, .move (.tmp 1), 3, "ref.go:136", #[], none⟩) (v := ?_) rfl (by kernel_rfl) (by kernel_rfl) (by kernel_rfl) (fun _ _ _ h => h) (Or.inl ⟨by rfl, ?_⟩) (by assumption) ?_
      rotate_left
      · (intro w hSw; (try dsimp only at hSw); go_simp; try with_reducible rfl)
      simp only [Act.put, List.setIfInBounds_toArray, List.set_cons_zero, List.set_cons_succ]
      refine wpAnyH_take (i := 10) (oi := ⟨some 23, .binOp .add 3 (.tmp 21) (.tmp 22) 3, 3, "ref.go:136", #[⟨8, .data⟩, ⟨9, .data⟩], none⟩) (v := ?_) rfl (by kernel_rfl) (by kernel_rfl) (by kernel_rfl) (fun _ _ _ h => h) (Or.inl ⟨by rfl, ?_⟩) (by assumption) ?_
      rotate_left
      · (intro w hSw; (try dsimp only at hSw); go_simp; try with_reducible rfl)
      simp only [Act.put, List.setIfInBounds_toArray, List.set_cons_zero, List.set_cons_succ]
      refine wpAnyH_ready (rs := [11]) (by kernel_rfl) (by simp) ?_
      refine AllReadyH.cons (o := ⟨some 24, .call { callee := .value (.func 94), args := #[.tmp 16, .tmp 23], argTypes := #[60, 3] }, 50, "ref.go:136", #[⟨3, .data⟩, ⟨10, .data⟩], none⟩) rfl (fun K hK => ?_) AllReadyH.nil
      go_simp
      refine (KR.out _ mdr).mono ?_
      rintro r1 wb ⟨v, rfl, hob, hmb⟩
      try simp only []
      refine hK.out _ _ (CS _ hmb) (fun _ => ?_)
      clear hK K
      try simp only [Act.put, List.setIfInBounds_toArray, List.set_cons_zero, List.set_cons_succ]
      refine wpAnyH_take (i := 12) (oi := ⟨some 12, .move (.tmp 24), 50, "ref.go:136", #[⟨11, .data⟩], none⟩) (v := ?_) rfl (by kernel_rfl) (by kernel_rfl) (by kernel_rfl) (fun _ _ _ h => h) (Or.inl ⟨by rfl, ?_⟩) (by assumption) ?_
      rotate_left
      · (intro w hSw; (try dsimp only at hSw); go_simp; try with_reducible rfl)
      simp only [Act.put, List.setIfInBounds_toArray, List.set_cons_zero, List.set_cons_succ]
      refine wpAnyH_take (i := 13) (oi := ⟨some 25, .extract (.tmp 12) 0, 22, "ref.go:136", #[⟨12, .data⟩], none⟩) (v := ?_) rfl (by kernel_rfl) (by kernel_rfl) (by kernel_rfl) (fun _ _ _ h => h) (Or.inl ⟨by rfl, ?_⟩) (by assumption) ?_
      rotate_left
      · (intro w hSw; (try dsimp only at hSw); go_simp; try with_reducible rfl)
      simp only [Act.put, List.setIfInBounds_toArray, List.set_cons_zero, List.set_cons_succ]
      refine wpAnyH_take (i := 14) (oi := ⟨some 26, .extract (.tmp 12) 1, 32, "ref.go:136", #[⟨12, .data⟩, { on := 15, ground := Ground.gcOnly Departure.lateStores }], none⟩) (v := ?_) rfl (by kernel_rfl) (by kernel_rfl) (by kernel_rfl) (fun _ _ _ h => h) (Or.inl ⟨by rfl, ?_⟩) (by assumption) ?_
      rotate_left
      · (intro w hSw; (try dsimp only at hSw); go_simp; try with_reducible rfl)
      simp only [Act.put, List.setIfInBounds_toArray, List.set_cons_zero, List.set_cons_succ]
      refine wpAnyH_take (i := 15) (oi := ⟨some 6, .assign (.tmp 25), 22, "ref.go:136", #[⟨13, .data⟩, ⟨11, .chain⟩, ⟨0, .phase⟩, ⟨1, .phase⟩, ⟨2, .phase⟩, ⟨3, .phase⟩, ⟨4, .phase⟩, ⟨5, .phase⟩, ⟨6, .phase⟩, ⟨7, .phase⟩, ⟨8, .phase⟩, ⟨9, .phase⟩, ⟨10, .phase⟩, ⟨11, .phase⟩, ⟨12, .phase⟩, ⟨13, .phase⟩, { on := 14, ground := Ground.textOnly Departure.lateStores }], none⟩) (v := ?_) rfl (by kernel_rfl) (by kernel_rfl) (by kernel_rfl) (fun _ _ _ h => h) (Or.inl ⟨by rfl, ?_⟩) (by assumption) ?_
      rotate_left
      · (intro w hSw; (try dsimp only at hSw); go_simp; try with_reducible rfl)
      simp only [Act.put, List.setIfInBounds_toArray, List.set_cons_zero, List.set_cons_succ]
      refine wpAnyH_take (i := 16) (oi := ⟨some 7, .assign (.tmp 26), 32, "ref.go:136", #[⟨14, .data⟩, ⟨15, .chain⟩, ⟨0, .phase⟩, ⟨1, .phase⟩, ⟨2, .phase⟩, ⟨3, .phase⟩, ⟨4, .phase⟩, ⟨5, .phase⟩, ⟨6, .phase⟩, ⟨7, .phase⟩, ⟨8, .phase⟩, ⟨9, .phase⟩, ⟨10, .phase⟩, ⟨11, .phase⟩, ⟨12, .phase⟩, ⟨13, .phase⟩, ⟨14, .phase⟩, ⟨15, .phase⟩], none⟩) (v := ?_) rfl (by kernel_rfl) (by kernel_rfl) (by kernel_rfl) (fun _ _ _ h => h) (Or.inl ⟨by rfl, ?_⟩) (by assumption) ?_
      rotate_left
      · (intro w hSw; (try dsimp only at hSw); go_simp; try with_reducible rfl)
      simp only [Act.put, List.setIfInBounds_toArray, List.set_cons_zero, List.set_cons_succ]
      refine wpAnyH_done (by kernel_rfl) ?_ _
      go_wp2_with fail
      go_meet
      exact ⟨_, rfl, hob, hmb⟩

    case rest =>
      obtain ⟨v, rfl, hob, hmb⟩ := hcut
      clear KR KT c0 c1 CS w1 w2
      obtain ⟨g, cap, cur, ev, -, hgg, hle, -⟩ := hob.row (by intro e; have := HSL.out; rw [e] at this; cases this)
      rw [HSL.out] at ev hle
      subst ev
      have hbs := (OwnB.bytes hob).2
      have b0 := hbs.sub 0 4
      have b4 := hbs.sub 4 252
      rw [List.drop_zero, Nat.add_zero] at b0
      rw [Nat.zero_add, List.take_of_length_le (by rw [List.length_drop, HSL.out]; decide)] at b4
      have L0 : (s.take 4).length = 4 := by rw [List.length_take, HSL.out]; decide
      have L4 : (s.drop 4).length = 252 := by rw [List.length_drop, HSL.out]
      have KA : ∀ w', Mod (fun _ => False) wc w' → Calls Try.prog 137 #[.slice (some ⟨g, 0, none⟩) 4 cap] w' fun e w'' => e = .returned (.int .u64 (unle (s.take 4) : Int)) ∧ w' = w'' := fun w' hm =>
        rread_le (some ⟨g, 0, none⟩) (s.take 4) 4 cap w' L0 (b0.mod hm (fun _ _ _ => id)) (by omega)
      have KB : ∀ w', Mod (fun _ => False) wc w' → Calls Try.prog 138 #[.slice (some ⟨g, 4, none⟩) 252 (cap - 4)] w' fun e w'' => e = .returned (.int .u32 ((crc (s.drop 4)).toNat : Int)) ∧ w' = w'' := fun w' hm =>
        rsum_any (some ⟨g, 4, none⟩) (s.drop 4) 252 (cap - 4) w' L4 (by omega) (b4.mod hm (fun _ _ _ => id))
      have hX := (crc (s.drop 4)).isLt
      have hsd : sound s = decide (unle (s.take 4) = (crc (s.drop 4)).toNat) := rfl
      have hgl := World.ownsRow.lt hob g rfl
      have HB4 := Lib.hid b4
      have HL4 := Lib.hid L4
      have KAh := Lib.hid KA
      have KBh := Lib.hid KB
      have HMB := Lib.hid hmb
      have hcap4 : ¬ (cap = 4) := by omega
      have hcap4' : (4 : Int) ≤ (cap : Int) := by omega
      clear hob hbs b0 b4 L0 L4 KA KB hmb hgg
      generalize unle (s.take 4) = A at *
      generalize (crc (s.drop 4)).toNat = X0 at *
      have HSD := Lib.hid hsd
      have wX : IntKind.u64.wrap (X0 : Int) = (X0 : Int) := IntWalk.u64_in _ (by omega)
      clear hsd
      go_upto_region 4 with fail
      go_cut [34] (fun v34 wx => v34 = .bool (!sound s) ∧ Mod (fun _ => False) wc wx)
      case first =>
        have mdr : Mod (fun _ => False) wc wc.drew := Mod.drew _ _
        refine wp_region_held_drew (S := fun w' => Mod (fun _ => False) wc w') (by kernel_rfl) (mdr) (fun hHeld => ?_)
        refine wpAnyH_take (i := 0) (oi := ⟨some 27, .move (.tmp 6), 22, "ref.go:137", #[], none⟩) (v := ?_) rfl (by kernel_rfl) (by kernel_rfl) (by kernel_rfl) (fun _ _ _ h => h) (Or.inl ⟨by rfl, ?_⟩) (by assumption) ?_
        rotate_left
        · (intro w hSw; (try dsimp only at hSw); go_simp; try with_reducible rfl)
        simp only [Act.put, List.setIfInBounds_toArray, List.set_cons_zero, List.set_cons_succ]
        refine wpAnyH_take (i := 1) (oi := ⟨some 28, .slice 22 (.tmp 27) none (some (.const (.int .i64 4))) none, 22, "ref.go:137", #[⟨0, .data⟩], none⟩) (v := ?_) rfl (by kernel_rfl) (by kernel_rfl) (by kernel_rfl) (fun _ _ _ h => h) (Or.inl ⟨by rfl, ?_⟩) (by assumption) ?_
        rotate_left
        · (intro w hSw; (try dsimp only at hSw); go_simp; try with_reducible rfl)
        simp only [Act.put, List.setIfInBounds_toArray, List.set_cons_zero, List.set_cons_succ]
        refine wpAnyH_take (i := 3) (oi := ⟨some 30, .move (.tmp 6), 22, "ref.go:137", #[], none⟩) (v := ?_) rfl (by kernel_rfl) (by kernel_rfl) (by kernel_rfl) (fun _ _ _ h => h) (Or.inl ⟨by rfl, ?_⟩) (by assumption) ?_
        rotate_left
        · (intro w hSw; (try dsimp only at hSw); go_simp; try with_reducible rfl)
        simp only [Act.put, List.setIfInBounds_toArray, List.set_cons_zero, List.set_cons_succ]
        refine wpAnyH_take (i := 4) (oi := ⟨some 31, .slice 22 (.tmp 30) (some (.const (.int .i64 4))) none none, 22, "ref.go:137", #[⟨3, .data⟩], none⟩) (v := ?_) rfl (by kernel_rfl) (by kernel_rfl) (by kernel_rfl) (fun _ _ _ h => h) (Or.inl ⟨by rfl, ?_⟩) (by assumption) ?_
        rotate_left
        · (intro w hSw; (try dsimp only at hSw); go_simp; try with_reducible rfl)
        simp only [Act.put, List.setIfInBounds_toArray, List.set_cons_zero, List.set_cons_succ]
        refine held_call (i := 2) (oi := ⟨some 29, .call { callee := .value (.func 137), args := #[.tmp 28], argTypes := #[22] }, 142, "ref.go:137", #[⟨1, .data⟩], none⟩) (v := (.int .u64 (A : Int))) rfl (by kernel_rfl) (by kernel_rfl) (by kernel_rfl) (fun _ _ _ h => h) (by assumption) 137 #[.slice (some ⟨g, 0, none⟩) 4 cap] (by rfl) (fun w => by go_simp) (fun w hSw => KAh.out _ hSw) ?_
        simp only [Act.put, List.setIfInBounds_toArray, List.set_cons_zero, List.set_cons_succ]
        refine held_call (i := 5) (oi := ⟨some 32, .call { callee := .value (.func 138), args := #[.tmp 31], argTypes := #[22] }, 23, "ref.go:137", #[⟨4, .data⟩, ⟨2, .chain⟩], none⟩) (v := (.int .u32 (X0 : Int))) rfl (by kernel_rfl) (by kernel_rfl) (by kernel_rfl) (fun _ _ _ h => h) (by assumption) 138 #[.slice (some ⟨g, 4, none⟩) 252 (cap - 4)] (by rfl) (fun w => by go_simp) (fun w hSw => KBh.out _ hSw) ?_
        simp only [Act.put, List.setIfInBounds_toArray, List.set_cons_zero, List.set_cons_succ]
        refine wpAnyH_take (i := 6) (oi := ⟨some 33, .convert 23 142 (.tmp 32), 142, "ref.go:137", #[⟨5, .data⟩], none⟩) (v := ?_) rfl (by kernel_rfl) (by kernel_rfl) (by kernel_rfl) (fun _ _ _ h => h) (Or.inl ⟨by rfl, ?_⟩) (by assumption) ?_
        rotate_left
        · (intro w hSw; (try dsimp only at hSw); go_simp; try with_reducible rfl)
        simp only [Act.put, List.setIfInBounds_toArray, List.set_cons_zero, List.set_cons_succ]
        refine wpAnyH_take (i := 7) (oi := ⟨some 34, .binOp .neq 142 (.tmp 29) (.tmp 33) 142, 4, "ref.go:137", #[⟨2, .data⟩, ⟨6, .data⟩], none⟩) (v := ?_) rfl (by kernel_rfl) (by kernel_rfl) (by kernel_rfl) (fun _ _ _ h => h) (Or.inl ⟨by rfl, ?_⟩) (by assumption) ?_
        rotate_left
        · (intro w hSw; (try dsimp only at hSw); go_simp; try with_reducible rfl)
        simp only [Act.put, List.setIfInBounds_toArray, List.set_cons_zero, List.set_cons_succ]
        refine wpAnyH_done (by kernel_rfl) ?_ _
        go_wp2_with fail
        go_meet
        exact ⟨congrArg Value.bool (by rw [HSD.out]; by_cases h : A = X0 <;> simp [h]; omega), mdr⟩

      case rest =>
        obtain ⟨rfl, m2⟩ := hcut
        have hb2 := HB4.out.mod m2 (fun _ _ _ => id)
        have hm2 := HMB.out.trans' m2
        have hz := m2.size
        have HB2 := Lib.hid hb2
        have HM2 := Lib.hid hm2
        clear hb2 hm2 m2 KAh KBh wX
        cases hs : sound s
        · have hoe : o = ([], 12) := by rw [HO2.out, hs]; rfl
          subst hoe
          clear HO2 hs
          go_wp2
          go_ret2
          exact ⟨_, rfl, ⟨none, 0, rfl, BytesAt.nil _ _, fun _ => ⟨rfl, rfl⟩, Nat.le_refl _, fun x hx => by cases hx⟩, HM2.out⟩
        · have hoe : o = (s.drop 4, 0) := by rw [HO2.out, hs]; rfl
          subst hoe
          clear HO2 hs
          go_wp2
          go_ret2
          refine ⟨_, rfl, ⟨some ⟨g, 4, none⟩, cap - 4, by rw [HL4.out]; rfl, HB2.out, (fun e => by cases e), (by rw [HL4.out]; omega), fun x hx => ?_⟩, HM2.out⟩
          cases hx
          exact ⟨hgl.1, Nat.lt_of_lt_of_le hgl.2 hz⟩
  · have htf : P.there n = false := by simpa using ht
    rw [htf] at KT
    have hoe : o = ([], 1) := by rw [HO.out]; unfold Pgr.read; rw [htf]; rfl
    subst hoe
    replace KT := Lib.hid KT
    clear HO ht htf hp hd
    go_enter Try.func120, Try.ntmps120
    go_wp2_with fail
    refine KT.out.mono ?_
    rintro e wb ⟨rfl, rfl⟩
    go_wp2
    go_ret2
    exact ⟨_, rfl, ⟨none, 0, rfl, BytesAt.nil _ _, fun _ => ⟨rfl, rfl⟩, Nat.le_refl _, fun x hx => by cases hx⟩, Mod.refl _ _⟩

/-- what a call on the reference's pager and its disk leaves -/
def RSaid (w : World) (B B2 q r : Nat) (vi vm : Value) (F : Nat → Prop) (P' : Pgr) (D' : Dsk) (w' : World) : Prop :=
  ∃ vi' vm' F', RPg w' B q r vi' vm' P' ∧ RDiskAt w' B2 r D' F' ∧ (∀ k, F' k → F k ∨ w.heap.size ≤ k) ∧ (∀ k, vi'.ownBlock = some k → (vi.ownBlock = some k ∨ w.heap.size ≤ k) ∧ ¬ F' k) ∧ (∀ k, vm'.ownBlock = some k → (vm.ownBlock = some k ∨ w.heap.size ≤ k) ∧ ¬ F' k) ∧ ¬ F' q ∧
    Mod (fun k => k = q ∨ vi.ownBlock = some k ∨ F k) w w'
theorem RSaid.still {w' : World} (hp : RPg w B q r vi vm P) (hd : RDiskAt w B2 r D F) (hF : ∀ k, F k → k ≠ q ∧ vi.ownBlock ≠ some k ∧ vm.ownBlock ≠ some k) (hm : Mod (fun _ => False) w w') : RSaid w B B2 q r vi vm F P D w' :=
  ⟨vi, vm, F, hp.mod hm (fun _ _ => id), hd.mod hm (fun _ _ => id), fun _ hk => .inl hk, fun k hk => ⟨.inl hk, fun e => (hF k e).2.1 hk⟩, fun k hk => ⟨.inl hk, fun e => (hF k e).2.2 hk⟩, fun e => (hF q e).1 rfl, hm.mono (fun _ _ e => e.elim)⟩

theorem first_empty (P : Pgr) (h : P.empties.length ≠ 0) : ∃ e, e < P.pages ∧ P.is_.getD e 0 = 0 ∧ (∀ k, k < e → P.is_.getD k 0 ≠ 0) ∧ P.empties.getD 0 0 = e := by
  have : ∀ n, n ≤ P.pages → (∃ e, e < n ∧ P.is_.getD e 0 = 0 ∧ (∀ k, k < e → P.is_.getD k 0 ≠ 0)) ∨ ∀ k, k < n → P.is_.getD k 0 ≠ 0 := fun n => by
    induction n with
    | zero => exact fun _ => .inr (fun k hk => absurd hk (Nat.not_lt_zero _))
    | succ n ih =>
      intro hn
      rcases ih (by omega) with ⟨e, e1, e2, e3⟩ | hall
      · exact .inl ⟨e, by omega, e2, e3⟩
      · by_cases h0 : P.is_.getD n 0 = 0
        · exact .inl ⟨n, by omega, h0, hall⟩
        · exact .inr (fun k hk => by
            by_cases e : k = n
            · rw [e]; exact h0
            · exact hall k (by omega))
  rcases this P.pages (Nat.le_refl _) with ⟨e, e1, e2, e3⟩ | hall
  · exact ⟨e, e1, e2, e3, (empties_is P e e1 e2 e3).1⟩
  · obtain ⟨h1, h2⟩ := empties_first P h
    exact absurd h2 (hall _ h1)

set_option maxHeartbeats 2000000 in
set_option maxRecDepth 100000 in
theorem rpwrite_any (hp : RPg w B q r vi vm P) (hd : RDiskAt w B2 r D F) (hF : ∀ k, F k → k ≠ q ∧ vi.ownBlock ≠ some k ∧ vm.ownBlock ≠ some k) (hwf : P.wf D) (hlim : D.l.length + 1 ≤ 1048576)
    (a : Option Addr) (b : List UInt8) (n cap : Nat) (hn : b.length = n) (ha : a = none → cap = 0) (hb : BytesAt w a b) :
    Calls Try.prog 115 #[.pointer (some ⟨q, 0, none⟩), .slice a n cap] w fun e w' => e = .returned (.tuple #[.int .i64 (P.write D b).1, .int .i64 (P.write D b).2.1]) ∧ RSaid w B B2 q r vi vm F (P.write D b).2.2.1 (P.write D b).2.2.2 w' := by
  subst hn
  obtain ⟨o, ho⟩ : ∃ o, o = P.write D b := ⟨_, rfl⟩
  rw [← ho]
  unfold Pgr.write at ho
  have HP := Lib.hid hp
  have HD := Lib.hid hd
  have HO := Lib.hid ho
  have HF := Lib.hid hF
  obtain ⟨c0, c1, c2, c7⟩ := hp.cells
  have KF := rfree_any hp
  clear ho
  cases hdd : P.dead with
  | true =>
    have ho := HO.out
    rw [if_pos hdd] at ho
    subst ho
    rw [hdd] at c7
    clear hp hd hF hdd HO KF
    go_enter Try.func115, Try.ntmps115
    go_wp2
    go_ret2
    exact ⟨rfl, RSaid.still HP.out HD.out HF.out (Mod.refl _ _)⟩
  | false =>
  rw [hdd] at c7
  have HDD := Lib.hid hdd
  by_cases hbl : 252 < b.length
  · have ho := HO.out
    rw [if_neg (by rw [hdd]; decide), if_pos hbl] at ho
    subst ho
    have hbl' : 252 < (b.length : Int) := by omega
    clear hp hd hF hdd HO KF hbl
    go_enter Try.func115, Try.ntmps115
    go_wp2
    go_ret2
    exact ⟨rfl, RSaid.still HP.out HD.out HF.out (Mod.refl _ _)⟩
  by_cases hne : P.empties.length = 0
  · have ho := HO.out
    rw [if_neg (by rw [hdd]; decide), if_neg hbl, if_pos hne] at ho
    subst ho
    rw [hne] at KF
    have hbl' : (b.length : Int) ≤ 252 := by omega
    have HKF := Lib.hid KF
    clear hp hd hF hdd HO hbl hne KF
    go_enter Try.func115, Try.ntmps115
    go_wp2_with fail
    refine HKF.out.mono ?_
    rintro e wb ⟨rfl, rfl⟩
    go_wp2
    go_ret2
    exact ⟨rfl, RSaid.still HP.out HD.out HF.out (Mod.refl _ _)⟩
  obtain ⟨e, e1, e2, e3, e4⟩ := first_empty P hne
  have ho := HO.out
  rw [if_neg (by rw [hdd]; decide), if_neg hbl, if_neg hne, e4] at ho
  unfold Pgr.writeAt at ho
  obtain ⟨why, hwhy⟩ : ∃ why, why = D.why ((P.frm + 2 + e : Nat) : Int) (seal_ b) := ⟨_, rfl⟩
  obtain ⟨D', hD'⟩ : ∃ D', D' = D.write ((P.frm + 2 + e : Nat) : Int) (seal_ b) := ⟨_, rfl⟩
  rw [← hwhy, ← hD'] at ho
  have HO2 := Lib.hid ho
  obtain ⟨g, ci, evi, hgb, hle, hrow⟩ := hp.row
  rw [evi] at c2
  have hfit := hwf.fit
  have htop := hwf.top
  have hbl' : (b.length : Int) ≤ 252 := by omega
  have hX : ((P.empties.length : Int) == 0) = false := by rw [beq_eq_false_iff_ne]; omega
  obtain ⟨X, hXX⟩ : ∃ X, X = P.empties.length := ⟨_, rfl⟩
  rw [← hXX] at KF hX
  have w1 : IntKind.i64.wrap ((P.frm : Int) + 2) = (P.frm : Int) + 2 := IntWalk.i64_in _ (by omega)
  have w2 : IntKind.i64.wrap ((P.frm : Int) + 2 + (e : Int)) = (P.frm : Int) + 2 + (e : Int) := IntWalk.i64_in _ (by omega)
  have hcast : ((P.frm + 2 + e : Nat) : Int) = (P.frm : Int) + 2 + (e : Int) := by push_cast; rfl
  have hsl := seal_length b (by omega)
  obtain ⟨s, hs⟩ : ∃ s, s = seal_ b := ⟨_, rfl⟩
  rw [← hs] at hsl
  have KW : ∀ w' av cv, Mod (fun _ => False) w w' → BytesAt w' av s → Calls Try.prog 90 #[.pointer (some ⟨r, 0, none⟩), .int .i64 ((P.frm : Int) + 2 + (e : Int)), .slice av 256 cv] w' fun e w'' => e = .returned (.int .i64 why) ∧ Left (RDiskT B2 r D') F w w'' ∧ Mod F w' w'' := fun w' av cv hm hb' => by
    have h := (hd.mod hm (fun _ _ => id)).write hlim ((P.frm : Int) + 2 + (e : Int)) av s cv hb' (by omega)
    rw [hsl] at h
    rw [hwhy, hD', hcast, ← hs]
    exact h.mono fun e w'' ⟨h1, h2⟩ => ⟨h1, Left.pre hm h2, h2.1⟩
  have HROW := Lib.hid hrow
  have HE3 := Lib.hid e3
  have HKF := Lib.hid KF
  have HKW := Lib.hid KW
  have HS := Lib.hid hs
  have HSL := Lib.hid hsl
  have HB := Lib.hid hb
  have HGB := Lib.hid hgb
  have HEVI := Lib.hid evi
  have hcle : (P.pages : Int) ≤ (ci : Int) := by omega
  have HE2 := Lib.hid e2
  clear hp hd hF hdd HO hbl hne KF ho hwhy hD' hcast hs hsl KW hrow e2 e3 e4 hb hgb evi hXX
  go_enter Try.func115, Try.ntmps115
  go_wp2_with fail
  refine HKF.out.mono ?_
  rintro e' wb ⟨rfl, rfl⟩
  clear HKF
  go_upto_region 7 with fail
  go_wp2_with fail
  go_loop [6] (fun v6 => ∃ i : Nat, i ≤ e ∧ v6 = .int .i64 (i : Int)) (fun v6 => e - (intOf v6).toNat)
  case atStart => exact ⟨0, Nat.zero_le _, rfl⟩
  case round =>
    obtain ⟨i, hi, rfl⟩ := hrel
    have hip : (i : Int) < (P.pages : Int) := by omega
    have hci := (HROW.out i (by omega)).1
    unfold isV at hci
    by_cases hlt : i < e
    · have hni := HE3.out i hlt
      generalize P.is_.getD i 0 = x at *
      have hnb : ((x.toNat : Int) != 0) = true := by
        rw [bne_iff_ne]
        intro h
        exact hni (UInt8.toNat_inj.1 (by show x.toNat = 0; omega))
      clear hni
      go_wp2_with fail
      go_round
      case rel => exact ⟨i + 1, by omega, by go_num⟩
      case measure => simp [intOf]; omega
    · obtain rfl : i = e := by omega
      rw [HE2.out] at hci
      have HBB := Lib.hid (OwnB.nil w w.heap.size)
      go_upto_region 12 with (at_builtin; refine appB_at rfl _ _ rfl w.heap.size (.slice none 0 0) [] rfl HBB.out a _ cap b rfl rfl ha HB.out (by simp; omega) (Nat.le_refl _) ?_; intro v5 w5 o5 mo5 b5)
      rw [List.nil_append] at o5
      have m5 : Mod (fun _ => False) w w5 := mo5.mono (fun k _ e => by simp [Value.ownBlock] at e)
      have hv5 : ∀ k, v5.ownBlock = some k → w.heap.size ≤ k := fun k hk => (World.ownsRow.lt o5 k hk).1
      have KS : ∀ w', Mod (fun _ => False) w5 w' → Calls Try.prog 133 #[v5] w' fun e w'' => ∃ av cv, e = .returned (.slice av 256 cv) ∧ BytesAt w'' av s ∧ Mod (fun _ => False) w w'' := fun w' hm => by
        refine (summed_any (o5.mod hm (fun _ _ => id)) (Nat.le_trans m5.size hm.size) (by omega)).mono ?_
        rintro e w'' ⟨v', rfl, h2, h3, -⟩
        rw [← HS.out] at h2
        obtain ⟨av, cv, rfl, -, -, hb2⟩ := h2.shape
        rw [HSL.out]
        exact ⟨av, cv, rfl, hb2, (m5.trans' hm).trans h3 (fun k hk e => by have := hv5 k e.symm; omega)⟩
      have CS : ∀ (G : Nat → Prop) w', Mod G w w' → ¬ G q → w'.cell? ⟨q, 0, none⟩ = some (.pointer (some ⟨r, 0, none⟩)) ∧ w'.cell? ⟨q, 1, none⟩ = some (.int .i64 (P.frm : Int)) := fun G w' hm hq => ⟨hm.cell' c0 hq, hm.cell' c1 hq⟩
      have hFq : ¬ F q := fun h => (HF.out q h).1 rfl
      have HKS := Lib.hid KS
      have mdr : Mod (fun _ => False) w5 w5.drew := Mod.drew _ _
      have M5 := Lib.hid m5
      clear KS o5 mo5 b5 m5 hv5
      refine wp_region_held_drew (S := fun w' => w'.cell? ⟨q, 0, none⟩ = some (.pointer (some ⟨r, 0, none⟩)) ∧ w'.cell? ⟨q, 1, none⟩ = some (.int .i64 (P.frm : Int))) (by kernel_rfl) (CS _ _ (M5.out.trans' mdr) id) (fun hHeld => ?_)
      refine wpAnyH_take (i := 0) (oi := ⟨some 35, .move (.tmp 0), 116, "ref.go:159", #[], none⟩) (v := ?_) rfl (by kernel_rfl) (by kernel_rfl) (by kernel_rfl) (fun _ _ _ h => h) (Or.inl ⟨by rfl, ?_⟩) (by assumption) ?_
      rotate_left
      · (intro w hSw; (try dsimp only at hSw); go_simp; try with_reducible rfl)
      simp only [Act.put, List.setIfInBounds_toArray, List.set_cons_zero, List.set_cons_succ]
      refine wpAnyH_take (i := 1) (oi := ⟨some 36, .nilCheck (.tmp 35), 0, "ref.go:159", #[⟨0, .data⟩], none⟩) (v := ?_) rfl (by kernel_rfl) (by kernel_rfl) (by kernel_rfl) (fun _ _ _ h => h) (Or.inl ⟨by rfl, ?_⟩) (by assumption) ?_
      rotate_left
      · (intro w hSw; (try dsimp only at hSw); go_simp; try with_reducible rfl)
      simp only [Act.put, List.setIfInBounds_toArray, List.set_cons_zero, List.set_cons_succ]
      refine wpAnyH_take (i := 2) (oi := ⟨some 37, .fieldAddr 164 (.tmp 36) 0, 0, "ref.go:159", #[⟨1, .data⟩], none⟩) (v := ?_) rfl (by kernel_rfl) (by kernel_rfl) (by kernel_rfl) (fun _ _ _ h => h) (Or.inl ⟨by rfl, ?_⟩) (by assumption) ?_
      rotate_left
      · (intro w hSw; (try dsimp only at hSw); go_simp; try with_reducible rfl)
      simp only [Act.put, List.setIfInBounds_toArray, List.set_cons_zero, List.set_cons_succ]
      refine wpAnyH_take (i := 3) (oi := ⟨some 38, .load 60 (.tmp 37), 60, "ref.go:159", #[⟨2, .data⟩], none⟩) (v := ?_) rfl (by kernel_rfl) (by kernel_rfl) (by kernel_rfl) (fun _ _ _ h => h) (Or.inl ⟨by rfl, ?_⟩) (by assumption) ?_
      rotate_left
      · (intro w hSw; (try dsimp only at hSw); go_simp; try with_reducible rfl)
      simp only [Act.put, List.setIfInBounds_toArray, List.set_cons_zero, List.set_cons_succ]
      refine wpAnyH_take (i := 4) (oi := ⟨some 39, .move (.tmp 0), 116, "ref.go:159", #[], none⟩) (v := ?_) rfl (by kernel_rfl) (by kernel_rfl) (by kernel_rfl) (fun _ _ _ h => h) (Or.inl ⟨by rfl, ?_⟩) (by assumption) ?_
      rotate_left
      · (intro w hSw; (try dsimp only at hSw); go_simp; try with_reducible rfl)
      simp only [Act.put, List.setIfInBounds_toArray, List.set_cons_zero, List.set_cons_succ]
      refine wpAnyH_take (i := 5) (oi := ⟨some 40, .nilCheck (.tmp 39), 0, "ref.go:159", #[⟨4, .data⟩], none⟩) (v := ?_) rfl (by kernel_rfl) (by kernel_rfl) (by kernel_rfl) (fun _ _ _ h => h) (Or.inl ⟨by rfl, ?_⟩) (by assumption) ?_
      rotate_left
      · (intro w hSw; (try dsimp only at hSw); go_simp; try with_reducible rfl)
      simp only [Act.put, List.setIfInBounds_toArray, List.set_cons_zero, List.set_cons_succ]
      refine wpAnyH_take (i := 6) (oi := ⟨some 41, .fieldAddr 164 (.tmp 40) 1, 0, "ref.go:159", #[⟨5, .data⟩], none⟩) (v := ?_) rfl (by kernel_rfl) (by kernel_rfl) (by kernel_rfl) (fun _ _ _ h => h) (Or.inl ⟨by rfl, ?_⟩) (by assumption) ?_
      rotate_left
      · (intro w hSw; (try dsimp only at hSw); go_simp; try with_reducible rfl)
      simp only [Act.put, List.setIfInBounds_toArray, List.set_cons_zero, List.set_cons_succ]
      refine wpAnyH_take (i := 7) (oi := ⟨some 42, .load 3 (.tmp 41), 3, "ref.go:159", #[⟨6, .data⟩], none⟩) (v := ?_) rfl (by kernel_rfl) (by kernel_rfl) (by kernel_rfl) (fun _ _ _ h => h) (Or.inl ⟨by rfl, ?_⟩) (by assumption) ?_
      rotate_left
      · (intro w hSw; (try dsimp only at hSw); go_simp; try with_reducible rfl)
      simp only [Act.put, List.setIfInBounds_toArray, List.set_cons_zero, List.set_cons_succ]
      refine wpAnyH_take (i := 8) (oi := ⟨some 43, .binOp .add 3 (.tmp 42) (.const (.int .i64 2)) 3, 3, "ref.go:159", #[⟨7, .data⟩], none⟩) (v := ?_) rfl (by kernel_rfl) (by kernel_rfl) (by kernel_rfl) (fun _ _ _ h => h) (Or.inl ⟨by rfl, ?_⟩) (by assumption) ?_
      rotate_left
      · (intro w hSw; (try dsimp only at hSw); go_simp; try with_reducible rfl)
      simp only [Act.put, List.setIfInBounds_toArray, List.set_cons_zero, List.set_cons_succ]
      refine wpAnyH_take (i := 9) (oi := ⟨some 44, .move (.tmp 6), 3, "ref.go:159", #[], none⟩) (v := ?_) rfl (by kernel_rfl) (by kernel_rfl) (by kernel_rfl) (fun _ _ _ h => h) (Or.inl ⟨by rfl, ?_⟩) (by assumption) ?_
      rotate_left
      · (intro w hSw; (try dsimp only at hSw); go_simp; try with_reducible rfl)
      simp only [Act.put, List.setIfInBounds_toArray, List.set_cons_zero, List.set_cons_succ]
      refine wpAnyH_take (i := 10) (oi := ⟨some 45, .binOp .add 3 (.tmp 43) (.tmp 44) 3, 3, "ref.go:159", #[⟨8, .data⟩, ⟨9, .data⟩], none⟩) (v := ?_) rfl (by kernel_rfl) (by kernel_rfl) (by kernel_rfl) (fun _ _ _ h => h) (Or.inl ⟨by rfl, ?_⟩) (by assumption) ?_
      rotate_left
      · (intro w hSw; (try dsimp only at hSw); go_simp; try with_reducible rfl)
      simp only [Act.put, List.setIfInBounds_toArray, List.set_cons_zero, List.set_cons_succ]
      refine wpAnyH_take (i := 11) (oi := ⟨some 46, .move (.tmp 7), 22, "ref.go:159", #[], none⟩) (v := ?_) rfl (by kernel_rfl) (by kernel_rfl) (by kernel_rfl) (fun _ _ _ h => h) (Or.inl ⟨by rfl, ?_⟩) (by assumption) ?_
      rotate_left
      · (intro w hSw; (try dsimp only at hSw); go_simp; try with_reducible rfl)
      simp only [Act.put, List.setIfInBounds_toArray, List.set_cons_zero, List.set_cons_succ]
      refine wpAnyH_ready (rs := [12]) (by kernel_rfl) (by simp) ?_
      refine AllReadyH.cons (o := ⟨some 47, .call { callee := .value (.func 133), args := #[.tmp 46], argTypes := #[22] }, 22, "ref.go:159", #[⟨11, .data⟩], none⟩) rfl (fun K hK => ?_) AllReadyH.nil
      go_simp
      refine (HKS.out _ mdr).mono ?_
      rintro r1 wa ⟨av, cv, rfl, hbv, ma⟩
      try simp only []
      refine hK.out _ _ (CS _ _ ma id) (fun _ => ?_)
      clear hK K
      try simp only [Act.put, List.setIfInBounds_toArray, List.set_cons_zero, List.set_cons_succ]
      refine wpAnyH_ready (rs := [13]) (by kernel_rfl) (by simp) ?_
      refine AllReadyH.cons (o := ⟨some 48, .call { callee := .value (.func 90), args := #[.tmp 38, .tmp 45, .tmp 47], argTypes := #[60, 3, 22] }, 32, "ref.go:159", #[⟨3, .data⟩, ⟨10, .data⟩, ⟨12, .data⟩, ⟨12, .chain⟩], none⟩) rfl (fun K hK => ?_) AllReadyH.nil
      go_simp
      refine (HKW.out _ av cv ma hbv).mono ?_
      rintro r1 wd ⟨rfl, hleft, -⟩
      try simp only []
      refine hK.out _ _ (CS _ _ hleft.1 hFq) (fun _ => ?_)
      clear hK K
      try simp only [Act.put, List.setIfInBounds_toArray, List.set_cons_zero, List.set_cons_succ]
      refine wpAnyH_take (i := 14) (oi := ⟨some 8, .assign (.tmp 48), 32, "ref.go:159", #[⟨13, .data⟩, ⟨13, .chain⟩, ⟨0, .phase⟩, ⟨1, .phase⟩, ⟨2, .phase⟩, ⟨3, .phase⟩, ⟨4, .phase⟩, ⟨5, .phase⟩, ⟨6, .phase⟩, ⟨7, .phase⟩, ⟨8, .phase⟩, ⟨9, .phase⟩, ⟨10, .phase⟩, ⟨11, .phase⟩, ⟨12, .phase⟩, ⟨13, .phase⟩], none⟩) (v := ?_) rfl (by kernel_rfl) (by kernel_rfl) (by kernel_rfl) (fun _ _ _ h => h) (Or.inl ⟨by rfl, ?_⟩) (by assumption) ?_
      rotate_left
      · (intro w hSw; (try dsimp only at hSw); go_simp; try with_reducible rfl)
      simp only [Act.put, List.setIfInBounds_toArray, List.set_cons_zero, List.set_cons_succ]
      refine wpAnyH_done (by kernel_rfl) ?_ _
      obtain ⟨mF, F', hd', hF'⟩ := hleft
      have hp' := HP.out.mod mF (fun k hk e => by
        have := HF.out k e
        rcases hk with h | h | h
        · exact this.1 h
        · exact this.2.1 h
        · exact this.2.2 h)
      have hqw := lt_of_block HP.out.at_
      have hvw := fun k hk => (World.ownsRow.lt HP.out.is k hk).2
      have hmw := fun k hk => (World.ownsRow.lt HP.out.mt k hk).2
      have hqF' : ¬ F' q := fun h => (hF' q h).elim (fun h => hFq h) (fun h => by omega)
      have hvF' : ∀ k, vi.ownBlock = some k → ¬ F' k := fun k hk h => (hF' k h).elim (fun h => (HF.out k h).2.1 hk) (fun h => by have := hvw k hk; omega)
      have hmF' : ∀ k, vm.ownBlock = some k → ¬ F' k := fun k hk h => (hF' k h).elim (fun h => (HF.out k h).2.2 hk) (fun h => by have := hmw k hk; omega)
      obtain ⟨z0, z1, z2, z7⟩ := hp'.cells
      rw [HEVI.out] at z2
      obtain ⟨g2, ci2, e2, -, -, hrow2⟩ := hp'.row
      rw [HEVI.out] at e2
      cases e2
      obtain ⟨hci2, hfi2⟩ := hrow2 i e1
      have f7 := thaw_of (i := 7) hp'.at_
      have hs2 := hp'.setIs g ci HEVI.out i e1 2
      have hs7 := hp'.setDead true
      have hi0 : (0 : Int) ≤ (i : Int) := by omega
      have HS2 := Lib.hid hs2
      have HS7 := Lib.hid hs7
      have HD' := Lib.hid hd'
      have HFF := Lib.hid hF'
      have HMF := Lib.hid mF
      have HQF := Lib.hid hqF'
      have HVF := Lib.hid hvF'
      have HMF' := Lib.hid hmF'
      clear hp' hs2 hs7 hd' hF' mF hrow2 hvw hmw hqF' hvF' hmF' hbv ma HKS HKW CS
      by_cases h0 : why = 0
      · subst h0
        have ho := HO2.out
        rw [if_pos rfl] at ho
        have HO3 := Lib.hid ho
        clear ho
        go_wp2
        go_ret2
        have ms : Mod (fun k => k = g) wd (wd.setCell ⟨g, i, none⟩ (.int .i64 2)) := Mod.setCell _ _ _ rfl
        rw [HO3.out]
        exact ⟨rfl, vi, vm, F', HS2.out, HD'.out.mod ms (fun k hk e => HVF.out g HGB.out (by rw [← e]; exact hk)), HFF.out, fun k hk => ⟨.inl hk, HVF.out k hk⟩, fun k hk => ⟨.inl hk, HMF'.out k hk⟩, HQF.out, (HMF.out.mono (fun _ _ e => .inr (.inr e))).trans' (ms.mono (fun k _ e => .inr (.inl (by rw [e]; exact HGB.out))))⟩
      · have ho := HO2.out
        rw [if_neg h0] at ho
        have HO3 := Lib.hid ho
        have hb1 : (why != 0) = true := by simpa using h0
        clear ho h0
        go_wp2
        go_ret2
        have ms : Mod (fun k => k = q) wd (wd.setCell ⟨q, 7, none⟩ (.bool true)) := Mod.setCell _ _ _ rfl
        rw [HO3.out]
        exact ⟨rfl, vi, vm, F', HS7.out, HD'.out.mod ms (fun k hk e => HQF.out (by rw [← e]; exact hk)), HFF.out, fun k hk => ⟨.inl hk, HVF.out k hk⟩, fun k hk => ⟨.inl hk, HMF'.out k hk⟩, HQF.out, (HMF.out.mono (fun _ _ e => .inr (.inr e))).trans' (ms.mono (fun k _ e => .inl e))⟩

end
end Go.Proofs.Ytdinnkacilgmmaa
namespace Go.Proofs.Ytdinnkacilgmmaa
open Go.RowKit

/-- between Flip's calls of the reference's disk -/
structure RX (wc : World) (B B2 q r : Nat) (vi vm : Value) (P : Pgr) (F : Nat → Prop) (D : Dsk) (W : World) : Prop where
  pg : RPg W B q r vi vm P
  dk : ∃ F', RDiskAt W B2 r D F' ∧ ∀ k, F' k → F k ∨ wc.heap.size ≤ k
  m : Mod F wc W
  hq : q < wc.heap.size ∧ ¬ F q
  hi : ∀ k, vi.ownBlock = some k → k < wc.heap.size ∧ ¬ F k
  hm : ∀ k, vm.ownBlock = some k → k < wc.heap.size ∧ ¬ F k
section
variable {wc W : World} {B B2 q r : Nat} {vi vm : Value} {P : Pgr} {F : Nat → Prop} {D : Dsk}
theorem RX.still {W' : World} (h : RX wc B B2 q r vi vm P F D W) (hm : Mod (fun _ => False) W W') : RX wc B B2 q r vi vm P F D W' := by
  obtain ⟨F', h1, h2⟩ := h.dk
  exact ⟨h.pg.mod hm (fun _ _ => id), ⟨F', h1.mod hm (fun _ _ => id), h2⟩, h.m.trans hm (fun _ _ e => e.elim), h.hq, h.hi, h.hm⟩
theorem RX.turn (h : RX wc B B2 q r vi vm P F D W) : ∃ F', RDiskAt W B2 r D F' ∧ ∀ (D' : Dsk) (W' : World), Left (RDiskT B2 r D') F' W W' → RX wc B B2 q r vi vm P F D' W' := by
  obtain ⟨F', h1, h2⟩ := h.dk
  refine ⟨F', h1, fun D' W' ⟨hm, F'', h3, h4⟩ => ⟨h.pg.mod hm (fun k hk e => ?_), ⟨F'', h3, fun k hk => ?_⟩, h.m.trans hm (fun k hk e => ?_), h.hq, h.hi, h.hm⟩⟩
  · have hk' : k < wc.heap.size ∧ ¬ F k := by
      rcases hk with e | e | e
      · exact e ▸ h.hq
      · exact h.hi k e
      · exact h.hm k e
    rcases h2 k e with e | e
    · exact hk'.2 e
    · omega
  · rcases h4 k hk with e | e
    · exact h2 k e
    · have := h.m.size; exact .inr (by omega)
  · rcases h2 k e with e | e
    · exact e
    · omega
theorem RX.die {w : World} (h : RX wc B B2 q r vi vm P F D W) (hm : Mod (fun _ => False) w wc) : RSaid w B B2 q r vi vm F { P with dead := true } D (W.setCell ⟨q, 7, none⟩ (.bool true)) := by
  obtain ⟨F', h1, h2⟩ := h.dk
  have hz := hm.size
  have ms : Mod (fun k => k = q) W (W.setCell ⟨q, 7, none⟩ (.bool true)) := Mod.setCell _ _ _ rfl
  have out : ∀ k, k < wc.heap.size ∧ ¬ F k → ¬ F' k := fun k hk e => by
    rcases h2 k e with e | e
    · exact hk.2 e
    · omega
  exact ⟨vi, vm, F', h.pg.setDead true, h1.mod ms (fun k hk e => out q h.hq (by rw [← e]; exact hk)), fun k hk => (h2 k hk).imp id (fun e => by omega), fun k hk => ⟨.inl hk, out k (h.hi k hk)⟩, fun k hk => ⟨.inl hk, out k (h.hm k hk)⟩, out q h.hq,
    ((hm.mono (fun _ _ e => e.elim)).trans' (h.m.mono (fun _ _ e => .inr (.inr e)))).trans' (ms.mono (fun _ _ e => .inl e))⟩
end

/-- a root of the reference in a variable -/
structure RL (w : World) (G : Nat) (page next : Int) (b : List UInt8) (kr : Nat) (a : Option Addr) (c : Nat) (W : World) : Prop where
  m : Mod (fun _ => False) w W
  lt : w.heap.size ≤ kr
  rt : W.heap[kr]? = some (.cells #[.int .i64 (G : Int), .int .i64 page, .int .i64 next, .slice a b.length c] 108 (0, 0))
  ow : OwnB W w.heap.size (.slice a b.length c) b

section
variable {w : World} {B B2 q r : Nat} {vi vm : Value} {P : Pgr} {D : Dsk} {F : Nat → Prop}

set_option maxHeartbeats 4000000 in
set_option maxRecDepth 100000 in
theorem rpflip_any (hp : RPg w B q r vi vm P) (hd : RDiskAt w B2 r D F) (hB : B ≤ w.heap.size) (hF : ∀ k, F k → k ≠ q ∧ vi.ownBlock ≠ some k ∧ vm.ownBlock ≠ some k) (hwf : P.wf D) (hlim : D.l.length + 1 ≤ 1048576) (hgen : P.root.gen + 1 < 4611686018427387904)
    (page next : Int) (am : Option Addr) (b : List UInt8) (nm cm : Nat) (hnm : b.length = nm) (hbl : b.length ≤ 140737488355328) (ham : am = none → cm = 0) (hb : BytesAt w am b)
    (a : Option Addr) (l : List Int) (n cap : Nat) (hn : l.length = n) (hll : l.length ≤ 140737488355328) (hl : IntsAt w a l) (hla : ∀ x, a = some x → l ≠ [] → ¬ x.block = q ∧ ¬ F x.block) :
    Calls Try.prog 117 #[.pointer (some ⟨q, 0, none⟩), .int .i64 page, .int .i64 next, .slice am nm cm, .slice a n cap] w fun e w' => e = .returned (.int .i64 (P.flip D page next b l).1) ∧ RSaid w B B2 q r vi vm F (P.flip D page next b l).2.1 (P.flip D page next b l).2.2 w' := by
  subst hnm hn
  obtain ⟨o, ho⟩ : ∃ o, o = P.flip D page next b l := ⟨_, rfl⟩
  rw [← ho]
  unfold Pgr.flip Pgr.whyFlip at ho
  have hpg : P.pages ≤ 4096 := hp.top
  obtain ⟨c0, c1, c2, c7⟩ := hp.cells
  have HP := Lib.hid hp
  have HD := Lib.hid hd
  have HF := Lib.hid hF
  have HO := Lib.hid ho
  have HL := Lib.hid hl
  have HLA := Lib.hid hla
  have HBY := Lib.hid hb
  have HB := Lib.hid hb
  have KT := Lib.hid (fun n => rthere_any hp n)
  clear hp hd hF ho hl hla hb
  cases hdd : P.dead with
  | true =>
    rw [hdd] at c7
    have ho := HO.out
    rw [hdd] at ho
    simp only [if_true] at ho
    have HO' := Lib.hid (ho : o = (21, P, D))
    clear ho hdd HO
    go_enter Try.func117, Try.ntmps117
    go_wp2
    go_ret
    rw [HO'.out]
    exact ⟨rfl, RSaid.still HP.out HD.out HF.out (Mod.refl _ _)⟩
  | false =>
  rw [hdd] at c7
  have hoo := HO.out
  rw [hdd] at hoo
  simp only [Bool.false_eq_true, if_false] at hoo
  obtain ⟨bad, hbad⟩ : ∃ bad, bad = P.badArgs page next := ⟨_, rfl⟩
  rw [← hbad] at hoo
  have HOO := Lib.hid hoo
  have HDD := Lib.hid hdd
  unfold Pgr.badArgs at hbad
  have HBAD := Lib.hid hbad
  clear hoo HO hbad hdd
  go_enter Try.func117, Try.ntmps117
  go_upto_region 3 with fail
  clear c7
  go_cut [33] (fun v33 wx => v33 = .bool bad ∧ w = wx)
  case first =>
    by_cases h1 : page = -1
    · have hb1 : (page != -1) = false := by rw [h1]; rfl
      have hbad := HBAD.out
      rw [hb1] at hbad
      simp only [Bool.false_and, Bool.false_or] at hbad
      replace HBAD := Lib.hid hbad
      clear hbad h1
      by_cases h2 : next < 1
      · go_wp2_with fail
        go_meet
        exact ⟨congrArg Value.bool (by rw [HBAD.out]; simp [h2]), rfl⟩
      · go_wp2_with fail
        go_meet
        exact ⟨congrArg Value.bool (by rw [HBAD.out, decide_eq_false (show ¬ next < 1 by omega)]; simp), rfl⟩
    · have hb1 : (page != -1) = true := by simpa using h1
      have hbad := HBAD.out
      rw [hb1] at hbad
      simp only [Bool.true_and] at hbad
      have hK := KT.out page
      generalize P.there page = t at *
      replace HBAD := Lib.hid hbad
      replace hK := Lib.hid hK
      clear hbad h1
      cases t
      · go_wp2_with (first | (go_at_call 134; refine hK.out.mono ?_; rintro e wb ⟨rfl, rfl⟩))
        go_meet
        exact ⟨congrArg Value.bool (by rw [HBAD.out]; simp), rfl⟩
      · by_cases h2 : next < 1
        · go_wp2_with (first | (go_at_call 134; refine hK.out.mono ?_; rintro e wb ⟨rfl, rfl⟩))
          go_meet
          exact ⟨congrArg Value.bool (by rw [HBAD.out]; simp [h2]), rfl⟩
        · go_wp2_with (first | (go_at_call 134; refine hK.out.mono ?_; rintro e wb ⟨rfl, rfl⟩))
          go_meet
          exact ⟨congrArg Value.bool (by rw [HBAD.out, decide_eq_false (show ¬ next < 1 by omega)]; simp), rfl⟩
  case rest =>
    obtain ⟨rfl, rfl⟩ := hcut
    cases bad with
    | true =>
      have hoo := HOO.out
      rw [if_pos rfl, if_pos (by decide)] at hoo
      replace HOO := Lib.hid hoo
      clear hoo
      go_wp2
      go_ret
      rw [HOO.out]
      exact ⟨rfl, RSaid.still HP.out HD.out HF.out (Mod.refl _ _)⟩
    | false =>
    simp only [Bool.false_eq_true, if_false] at HOO
    go_wp2_with fail
    go_loopw [11] (fun v11 wr => ∃ i : Nat, i ≤ l.length ∧ v11 = .int .i64 (i : Int) ∧ (l.take i).any P.noFlip = false ∧ Mod (fun _ => False) w wr) (fun v11 _ => l.length - (intOf v11).toNat)
    case atStart => exact ⟨0, Nat.zero_le _, rfl, rfl, Mod.refl _ _⟩
    case round =>
      obtain ⟨i, hi, rfl, hany, hm⟩ := hrel
      by_cases hlt : i < l.length
      · have hlt' : (i : Int) < (l.length : Int) := by omega
        have hne : l ≠ [] := by intro e; rw [e] at hlt; exact absurd hlt (Nat.not_lt_zero _)
        obtain ⟨bl, off, rfl, hc⟩ := HL.out hne
        have hci := hc i hlt
        have hmem : l[i] ∈ l := List.getElem_mem _
        have hst : (l.take (i + 1)).any P.noFlip = P.noFlip l[i] := by
          rw [List.take_succ_eq_append_getElem hlt, List.any_append, hany]; simp
        have hgl : P.noFlip l[i] = true → l.any P.noFlip = true := fun h => List.any_eq_true.2 ⟨_, hmem, h⟩
        have CL : ∀ w', Mod (fun _ => False) wr w' → w'.cell? ⟨bl, off + i, none⟩ = some (.int .i64 l[i]) := fun w' hm' => (hm.trans' hm').cell' hci id
        have hK : ∀ w', Mod (fun _ => False) wr w' → Calls Try.prog 134 #[.pointer (some ⟨q, 0, none⟩), .int .i64 l[i]] w' fun e w'' => e = .returned (.bool (P.there l[i])) ∧ w' = w'' := fun w' hm' => rthere_any (HP.out.mod (hm.trans' hm') (fun _ _ => id)) l[i]
        obtain ⟨g, ci, evi, -, hle, -⟩ := HP.out.row
        have CQ : ∀ w', Mod (fun _ => False) wr w' → w'.cell? ⟨q, 2, none⟩ = some (.slice (some ⟨g, 0, none⟩) P.pages ci) := fun w' hm' => by
          rw [← evi]; exact (hm.trans' hm').cell' c2 id
        have CR : ∀ m, m < P.pages → ∀ w', Mod (fun _ => False) wr w' → w'.cell? ⟨g, m, none⟩ = some (.int .i64 ((P.is_.getD m 0).toNat : Int)) := fun m hm3 w' hm' => by
          obtain ⟨g', c', e', -, -, hr⟩ := (HP.out.mod (hm.trans' hm') (fun _ _ => id)).row
          rw [evi] at e'
          cases e'
          exact (hr m hm3).1
        have HST := Lib.hid hst
        have HGL := Lib.hid hgl
        have HMW := Lib.hid hm
        have hKh := Lib.hid hK
        have CRh := Lib.hid CR
        have mdr : Mod (fun _ => False) wr wr.drew := Mod.drew _ _
        have hm9 := hm.trans' mdr
        have HM9 := Lib.hid hm9
        clear hst hgl hany hmem hc hne hm hci hK CR c0 c1 c2 evi hm9
        generalize l[i] = x at *
        by_cases ht : P.there x = true
        · have ht' : 0 ≤ x ∧ x < (P.pages : Int) := of_decide_eq_true ht
          obtain ⟨m, rfl⟩ : ∃ m : Nat, x = (m : Int) := ⟨x.toNat, by omega⟩
          have CR := CRh.out m (by omega)
          have hnf : P.noFlip (m : Int) = (P.is_.getD m 0 == 0) := by unfold Pgr.noFlip; rw [ht, Int.toNat_natCast]; rfl
          have hst := HST.out
          have hgl := HGL.out
          rw [hnf] at hst hgl
          have hK := hKh.out
          rw [ht] at hK
          replace hK := Lib.hid hK
          have hmi : (0 : Int) ≤ (m : Int) := by omega
          have hmj : (m : Int) < (P.pages : Int) := by omega
          have hmc : (P.pages : Int) ≤ (ci : Int) := by omega
          generalize P.is_.getD m 0 = y at *
          have HST2 := Lib.hid hst
          have HGL2 := Lib.hid hgl
          clear HST HGL hKh CRh ht ht' hnf hst hgl
          by_cases hy : y = 0
          · subst hy
            have hyes := HGL2.out rfl
            have hoo := HOO.out
            rw [hyes, if_pos rfl, if_pos (by decide)] at hoo
            have HO3 := Lib.hid hoo
            clear hyes hoo
            go_upto_region 8 with fail
            refine wp_region_held_drew (S := fun w' => Mod (fun _ => False) wr w') (by kernel_rfl) (mdr) (fun hHeld => ?_)
            refine wpAnyH_take (i := 0) (oi := ⟨some 40, .move (.tmp 0), 116, "ref.go:186", #[], none⟩) (v := ?_) rfl (by kernel_rfl) (by kernel_rfl) (by kernel_rfl) (fun _ _ _ h => h) (Or.inl ⟨by rfl, ?_⟩) (by assumption) ?_
            rotate_left
            · (intro w hSw; (try dsimp only at hSw); go_simp; try with_reducible rfl)
            simp only [Act.put, List.setIfInBounds_toArray, List.set_cons_zero, List.set_cons_succ]
            refine wpAnyH_take (i := 1) (oi := ⟨some 41, .move (.tmp 4), 39, "ref.go:186", #[], none⟩) (v := ?_) rfl (by kernel_rfl) (by kernel_rfl) (by kernel_rfl) (fun _ _ _ h => h) (Or.inl ⟨by rfl, ?_⟩) (by assumption) ?_
            rotate_left
            · (intro w hSw; (try dsimp only at hSw); go_simp; try with_reducible rfl)
            simp only [Act.put, List.setIfInBounds_toArray, List.set_cons_zero, List.set_cons_succ]
            refine wpAnyH_take (i := 2) (oi := ⟨some 42, .move (.tmp 11), 3, "ref.go:186", #[], none⟩) (v := ?_) rfl (by kernel_rfl) (by kernel_rfl) (by kernel_rfl) (fun _ _ _ h => h) (Or.inl ⟨by rfl, ?_⟩) (by assumption) ?_
            rotate_left
            · (intro w hSw; (try dsimp only at hSw); go_simp; try with_reducible rfl)
            simp only [Act.put, List.setIfInBounds_toArray, List.set_cons_zero, List.set_cons_succ]
            refine wpAnyH_take (i := 3) (oi := ⟨some 43, .indexAddr 39 (.tmp 41) (.tmp 42), 0, "ref.go:186", #[⟨1, .data⟩, ⟨2, .data⟩], none⟩) (v := ?_) rfl (by kernel_rfl) (by kernel_rfl) (by kernel_rfl) (fun _ _ _ h => h) (Or.inl ⟨by rfl, ?_⟩) (by assumption) ?_
            rotate_left
            · (intro w hSw; (try dsimp only at hSw); go_simp; try with_reducible rfl)
            simp only [Act.put, List.setIfInBounds_toArray, List.set_cons_zero, List.set_cons_succ]
            refine wpAnyH_take (i := 4) (oi := ⟨some 44, .load 3 (.tmp 43), 3, "ref.go:186", #[⟨3, .data⟩], none⟩) (v := ?_) rfl (by kernel_rfl) (by kernel_rfl) (by kernel_rfl) (fun _ _ _ h => h) (Or.inl ⟨by rfl, ?_⟩) (by assumption) ?_
            rotate_left
            · (intro w hSw; (try dsimp only at hSw); go_simp; try with_reducible rfl)
            simp only [Act.put, List.setIfInBounds_toArray, List.set_cons_zero, List.set_cons_succ]
            refine held_call (i := 5) (oi := ⟨some 45, .call { callee := .value (.func 134), args := #[.tmp 40, .tmp 44], argTypes := #[116, 3] }, 4, "ref.go:186", #[⟨0, .data⟩, ⟨4, .data⟩], none⟩) (v := (.bool true)) rfl (by kernel_rfl) (by kernel_rfl) (by kernel_rfl) (fun _ _ _ h => h) (by assumption) 134 #[.pointer (some ⟨q, 0, none⟩), .int .i64 (m : Int)] (by rfl) (fun w => by go_simp) (fun w hSw => hK.out _ hSw) ?_
            simp only [Act.put, List.setIfInBounds_toArray, List.set_cons_zero, List.set_cons_succ]
            refine wpAnyH_take (i := 6) (oi := ⟨some 46, .unOp .not 4 (.tmp 45), 4, "ref.go:186", #[⟨5, .data⟩], none⟩) (v := ?_) rfl (by kernel_rfl) (by kernel_rfl) (by kernel_rfl) (fun _ _ _ h => h) (Or.inl ⟨by rfl, ?_⟩) (by assumption) ?_
            rotate_left
            · (intro w hSw; (try dsimp only at hSw); go_simp; try with_reducible rfl)
            simp only [Act.put, List.setIfInBounds_toArray, List.set_cons_zero, List.set_cons_succ]
            refine wpAnyH_take (i := 7) (oi := ⟨some 47, .move (.tmp 46), 4, "ref.go:186", #[⟨6, .data⟩, ⟨5, .chain⟩], none⟩) (v := ?_) rfl (by kernel_rfl) (by kernel_rfl) (by kernel_rfl) (fun _ _ _ h => h) (Or.inl ⟨by rfl, ?_⟩) (by assumption) ?_
            rotate_left
            · (intro w hSw; (try dsimp only at hSw); go_simp; try with_reducible rfl)
            simp only [Act.put, List.setIfInBounds_toArray, List.set_cons_zero, List.set_cons_succ]
            refine wpAnyH_take (i := 8) (oi := ⟨some 48, .move (.tmp 0), 116, "ref.go:186", #[⟨7, .guard⟩], some (7, false)⟩) (v := ?_) rfl (by kernel_rfl) (by kernel_rfl) (by kernel_rfl) (fun _ _ _ h => h) (Or.inl ⟨by rfl, ?_⟩) (by assumption) ?_
            rotate_left
            · (intro w hSw; (try dsimp only at hSw); go_simp; try with_reducible rfl)
            simp only [Act.put, List.setIfInBounds_toArray, List.set_cons_zero, List.set_cons_succ]
            refine wpAnyH_take (i := 9) (oi := ⟨some 49, .nilCheck (.tmp 48), 0, "ref.go:186", #[⟨8, .data⟩, ⟨7, .guard⟩], some (7, false)⟩) (v := ?_) rfl (by kernel_rfl) (by kernel_rfl) (by kernel_rfl) (fun _ _ _ h => h) (Or.inl ⟨by rfl, ?_⟩) (by assumption) ?_
            rotate_left
            · (intro w hSw; (try dsimp only at hSw); go_simp; try with_reducible rfl)
            simp only [Act.put, List.setIfInBounds_toArray, List.set_cons_zero, List.set_cons_succ]
            refine wpAnyH_take (i := 10) (oi := ⟨some 50, .fieldAddr 164 (.tmp 49) 2, 0, "ref.go:186", #[⟨9, .data⟩, ⟨7, .guard⟩], some (7, false)⟩) (v := ?_) rfl (by kernel_rfl) (by kernel_rfl) (by kernel_rfl) (fun _ _ _ h => h) (Or.inl ⟨by rfl, ?_⟩) (by assumption) ?_
            rotate_left
            · (intro w hSw; (try dsimp only at hSw); go_simp; try with_reducible rfl)
            simp only [Act.put, List.setIfInBounds_toArray, List.set_cons_zero, List.set_cons_succ]
            refine wpAnyH_take (i := 11) (oi := ⟨some 51, .load 39 (.tmp 50), 39, "ref.go:186", #[⟨10, .data⟩, ⟨7, .guard⟩], some (7, false)⟩) (v := ?_) rfl (by kernel_rfl) (by kernel_rfl) (by kernel_rfl) (fun _ _ _ h => h) (Or.inl ⟨by rfl, ?_⟩) (by assumption) ?_
            rotate_left
            · (intro w hSw; (try dsimp only at hSw); go_simp; try with_reducible rfl)
            simp only [Act.put, List.setIfInBounds_toArray, List.set_cons_zero, List.set_cons_succ]
            refine wpAnyH_take (i := 12) (oi := ⟨some 52, .move (.tmp 4), 39, "ref.go:186", #[⟨7, .guard⟩], some (7, false)⟩) (v := ?_) rfl (by kernel_rfl) (by kernel_rfl) (by kernel_rfl) (fun _ _ _ h => h) (Or.inl ⟨by rfl, ?_⟩) (by assumption) ?_
            rotate_left
            · (intro w hSw; (try dsimp only at hSw); go_simp; try with_reducible rfl)
            simp only [Act.put, List.setIfInBounds_toArray, List.set_cons_zero, List.set_cons_succ]
            refine wpAnyH_take (i := 13) (oi := ⟨some 53, .move (.tmp 11), 3, "ref.go:186", #[⟨7, .guard⟩], some (7, false)⟩) (v := ?_) rfl (by kernel_rfl) (by kernel_rfl) (by kernel_rfl) (fun _ _ _ h => h) (Or.inl ⟨by rfl, ?_⟩) (by assumption) ?_
            rotate_left
            · (intro w hSw; (try dsimp only at hSw); go_simp; try with_reducible rfl)
            simp only [Act.put, List.setIfInBounds_toArray, List.set_cons_zero, List.set_cons_succ]
            refine wpAnyH_take (i := 14) (oi := ⟨some 54, .indexAddr 39 (.tmp 52) (.tmp 53), 0, "ref.go:186", #[⟨12, .data⟩, ⟨13, .data⟩, ⟨7, .guard⟩], some (7, false)⟩) (v := ?_) rfl (by kernel_rfl) (by kernel_rfl) (by kernel_rfl) (fun _ _ _ h => h) (Or.inl ⟨by rfl, ?_⟩) (by assumption) ?_
            rotate_left
            · (intro w hSw; (try dsimp only at hSw); go_simp; try with_reducible rfl)
            simp only [Act.put, List.setIfInBounds_toArray, List.set_cons_zero, List.set_cons_succ]
            refine wpAnyH_take (i := 15) (oi := ⟨some 55, .load 3 (.tmp 54), 3, "ref.go:186", #[⟨14, .data⟩, ⟨7, .guard⟩], some (7, false)⟩) (v := ?_) rfl (by kernel_rfl) (by kernel_rfl) (by kernel_rfl) (fun _ _ _ h => h) (Or.inl ⟨by rfl, ?_⟩) (by assumption) ?_
            rotate_left
            · (intro w hSw; (try dsimp only at hSw); go_simp; try with_reducible rfl)
            simp only [Act.put, List.setIfInBounds_toArray, List.set_cons_zero, List.set_cons_succ]
            refine wpAnyH_take (i := 16) (oi := ⟨some 56, .indexAddr 39 (.tmp 51) (.tmp 55), 0, "ref.go:186", #[⟨11, .data⟩, ⟨15, .data⟩, ⟨7, .guard⟩], some (7, false)⟩) (v := ?_) rfl (by kernel_rfl) (by kernel_rfl) (by kernel_rfl) (fun _ _ _ h => h) (Or.inl ⟨by rfl, ?_⟩) (by assumption) ?_
            rotate_left
            · (intro w hSw; (try dsimp only at hSw); go_simp; try with_reducible rfl)
            simp only [Act.put, List.setIfInBounds_toArray, List.set_cons_zero, List.set_cons_succ]
            refine wpAnyH_take (i := 17) (oi := ⟨some 57, .load 3 (.tmp 56), 3, "ref.go:186", #[⟨16, .data⟩, ⟨7, .guard⟩], some (7, false)⟩) (v := ?_) rfl (by kernel_rfl) (by kernel_rfl) (by kernel_rfl) (fun _ _ _ h => h) (Or.inl ⟨by rfl, ?_⟩) (by assumption) ?_
            rotate_left
            · (intro w hSw; (try dsimp only at hSw); go_simp; try with_reducible rfl)
            simp only [Act.put, List.setIfInBounds_toArray, List.set_cons_zero, List.set_cons_succ]
            refine wpAnyH_take (i := 18) (oi := ⟨some 58, .binOp .eql 3 (.tmp 57) (.const (.int .i64 0)) 3, 4, "ref.go:186", #[⟨17, .data⟩, ⟨7, .guard⟩], some (7, false)⟩) (v := ?_) rfl (by kernel_rfl) (by kernel_rfl) (by kernel_rfl) (fun _ _ _ h => h) (Or.inl ⟨by rfl, ?_⟩) (by assumption) ?_
            rotate_left
            · (intro w hSw; (try dsimp only at hSw); go_simp; try with_reducible rfl)
            simp only [Act.put, List.setIfInBounds_toArray, List.set_cons_zero, List.set_cons_succ]
            refine wpAnyH_take (i := 19) (oi := ⟨some 59, .pick (.tmp 47) (.const (.bool true)) (.tmp 58), 4, "ref.go:186", #[⟨7, .data⟩, ⟨18, .data⟩], none⟩) (v := ?_) rfl (by kernel_rfl) (by kernel_rfl) (by kernel_rfl) (fun _ _ _ h => h) (Or.inl ⟨by rfl, ?_⟩) (by assumption) ?_
            rotate_left
            · (intro w hSw; (try dsimp only at hSw); go_simp; try with_reducible rfl)
            simp only [Act.put, List.setIfInBounds_toArray, List.set_cons_zero, List.set_cons_succ]
            refine wpAnyH_done (by kernel_rfl) ?_ _
            go_wp2
            go_ret
            rw [HO3.out]
            exact ⟨rfl, RSaid.still HP.out HD.out HF.out HM9.out⟩

          · have hyb : ((y.toNat : Int) == 0) = false := by
              rw [beq_eq_false_iff_ne]
              intro h
              exact hy (UInt8.toNat_inj.1 (by show y.toNat = 0; omega))
            have hst := HST2.out
            rw [show (y == 0) = false by simpa using hy] at hst
            have HST3 := Lib.hid hst
            clear hy hst HST2
            go_upto_region 8 with fail
            refine wp_region_held_drew (S := fun w' => Mod (fun _ => False) wr w') (by kernel_rfl) (mdr) (fun hHeld => ?_)
            refine wpAnyH_take (i := 0) (oi := ⟨some 40, .move (.tmp 0), 116, "ref.go:186", #[], none⟩) (v := ?_) rfl (by kernel_rfl) (by kernel_rfl) (by kernel_rfl) (fun _ _ _ h => h) (Or.inl ⟨by rfl, ?_⟩) (by assumption) ?_
            rotate_left
            · (intro w hSw; (try dsimp only at hSw); go_simp; try with_reducible rfl)
            simp only [Act.put, List.setIfInBounds_toArray, List.set_cons_zero, List.set_cons_succ]
            refine wpAnyH_take (i := 1) (oi := ⟨some 41, .move (.tmp 4), 39, "ref.go:186", #[], none⟩) (v := ?_) rfl (by kernel_rfl) (by kernel_rfl) (by kernel_rfl) (fun _ _ _ h => h) (Or.inl ⟨by rfl, ?_⟩) (by assumption) ?_
            rotate_left
            · (intro w hSw; (try dsimp only at hSw); go_simp; try with_reducible rfl)
            simp only [Act.put, List.setIfInBounds_toArray, List.set_cons_zero, List.set_cons_succ]
            refine wpAnyH_take (i := 2) (oi := ⟨some 42, .move (.tmp 11), 3, "ref.go:186", #[], none⟩) (v := ?_) rfl (by kernel_rfl) (by kernel_rfl) (by kernel_rfl) (fun _ _ _ h => h) (Or.inl ⟨by rfl, ?_⟩) (by assumption) ?_
            rotate_left
            · (intro w hSw; (try dsimp only at hSw); go_simp; try with_reducible rfl)
            simp only [Act.put, List.setIfInBounds_toArray, List.set_cons_zero, List.set_cons_succ]
            refine wpAnyH_take (i := 3) (oi := ⟨some 43, .indexAddr 39 (.tmp 41) (.tmp 42), 0, "ref.go:186", #[⟨1, .data⟩, ⟨2, .data⟩], none⟩) (v := ?_) rfl (by kernel_rfl) (by kernel_rfl) (by kernel_rfl) (fun _ _ _ h => h) (Or.inl ⟨by rfl, ?_⟩) (by assumption) ?_
            rotate_left
            · (intro w hSw; (try dsimp only at hSw); go_simp; try with_reducible rfl)
            simp only [Act.put, List.setIfInBounds_toArray, List.set_cons_zero, List.set_cons_succ]
            refine wpAnyH_take (i := 4) (oi := ⟨some 44, .load 3 (.tmp 43), 3, "ref.go:186", #[⟨3, .data⟩], none⟩) (v := ?_) rfl (by kernel_rfl) (by kernel_rfl) (by kernel_rfl) (fun _ _ _ h => h) (Or.inl ⟨by rfl, ?_⟩) (by assumption) ?_
            rotate_left
            · (intro w hSw; (try dsimp only at hSw); go_simp; try with_reducible rfl)
            simp only [Act.put, List.setIfInBounds_toArray, List.set_cons_zero, List.set_cons_succ]
            refine held_call (i := 5) (oi := ⟨some 45, .call { callee := .value (.func 134), args := #[.tmp 40, .tmp 44], argTypes := #[116, 3] }, 4, "ref.go:186", #[⟨0, .data⟩, ⟨4, .data⟩], none⟩) (v := (.bool true)) rfl (by kernel_rfl) (by kernel_rfl) (by kernel_rfl) (fun _ _ _ h => h) (by assumption) 134 #[.pointer (some ⟨q, 0, none⟩), .int .i64 (m : Int)] (by rfl) (fun w => by go_simp) (fun w hSw => hK.out _ hSw) ?_
            simp only [Act.put, List.setIfInBounds_toArray, List.set_cons_zero, List.set_cons_succ]
            refine wpAnyH_take (i := 6) (oi := ⟨some 46, .unOp .not 4 (.tmp 45), 4, "ref.go:186", #[⟨5, .data⟩], none⟩) (v := ?_) rfl (by kernel_rfl) (by kernel_rfl) (by kernel_rfl) (fun _ _ _ h => h) (Or.inl ⟨by rfl, ?_⟩) (by assumption) ?_
            rotate_left
            · (intro w hSw; (try dsimp only at hSw); go_simp; try with_reducible rfl)
            simp only [Act.put, List.setIfInBounds_toArray, List.set_cons_zero, List.set_cons_succ]
            refine wpAnyH_take (i := 7) (oi := ⟨some 47, .move (.tmp 46), 4, "ref.go:186", #[⟨6, .data⟩, ⟨5, .chain⟩], none⟩) (v := ?_) rfl (by kernel_rfl) (by kernel_rfl) (by kernel_rfl) (fun _ _ _ h => h) (Or.inl ⟨by rfl, ?_⟩) (by assumption) ?_
            rotate_left
            · (intro w hSw; (try dsimp only at hSw); go_simp; try with_reducible rfl)
            simp only [Act.put, List.setIfInBounds_toArray, List.set_cons_zero, List.set_cons_succ]
            refine wpAnyH_take (i := 8) (oi := ⟨some 48, .move (.tmp 0), 116, "ref.go:186", #[⟨7, .guard⟩], some (7, false)⟩) (v := ?_) rfl (by kernel_rfl) (by kernel_rfl) (by kernel_rfl) (fun _ _ _ h => h) (Or.inl ⟨by rfl, ?_⟩) (by assumption) ?_
            rotate_left
            · (intro w hSw; (try dsimp only at hSw); go_simp; try with_reducible rfl)
            simp only [Act.put, List.setIfInBounds_toArray, List.set_cons_zero, List.set_cons_succ]
            refine wpAnyH_take (i := 9) (oi := ⟨some 49, .nilCheck (.tmp 48), 0, "ref.go:186", #[⟨8, .data⟩, ⟨7, .guard⟩], some (7, false)⟩) (v := ?_) rfl (by kernel_rfl) (by kernel_rfl) (by kernel_rfl) (fun _ _ _ h => h) (Or.inl ⟨by rfl, ?_⟩) (by assumption) ?_
            rotate_left
            · (intro w hSw; (try dsimp only at hSw); go_simp; try with_reducible rfl)
            simp only [Act.put, List.setIfInBounds_toArray, List.set_cons_zero, List.set_cons_succ]
            refine wpAnyH_take (i := 10) (oi := ⟨some 50, .fieldAddr 164 (.tmp 49) 2, 0, "ref.go:186", #[⟨9, .data⟩, ⟨7, .guard⟩], some (7, false)⟩) (v := ?_) rfl (by kernel_rfl) (by kernel_rfl) (by kernel_rfl) (fun _ _ _ h => h) (Or.inl ⟨by rfl, ?_⟩) (by assumption) ?_
            rotate_left
            · (intro w hSw; (try dsimp only at hSw); go_simp; try with_reducible rfl)
            simp only [Act.put, List.setIfInBounds_toArray, List.set_cons_zero, List.set_cons_succ]
            refine wpAnyH_take (i := 11) (oi := ⟨some 51, .load 39 (.tmp 50), 39, "ref.go:186", #[⟨10, .data⟩, ⟨7, .guard⟩], some (7, false)⟩) (v := ?_) rfl (by kernel_rfl) (by kernel_rfl) (by kernel_rfl) (fun _ _ _ h => h) (Or.inl ⟨by rfl, ?_⟩) (by assumption) ?_
            rotate_left
            · (intro w hSw; (try dsimp only at hSw); go_simp; try with_reducible rfl)
            simp only [Act.put, List.setIfInBounds_toArray, List.set_cons_zero, List.set_cons_succ]
            refine wpAnyH_take (i := 12) (oi := ⟨some 52, .move (.tmp 4), 39, "ref.go:186", #[⟨7, .guard⟩], some (7, false)⟩) (v := ?_) rfl (by kernel_rfl) (by kernel_rfl) (by kernel_rfl) (fun _ _ _ h => h) (Or.inl ⟨by rfl, ?_⟩) (by assumption) ?_
            rotate_left
            · (intro w hSw; (try dsimp only at hSw); go_simp; try with_reducible rfl)
            simp only [Act.put, List.setIfInBounds_toArray, List.set_cons_zero, List.set_cons_succ]
            refine wpAnyH_take (i := 13) (oi := ⟨some 53, .move (.tmp 11), 3, "ref.go:186", #[⟨7, .guard⟩], some (7, false)⟩) (v := ?_) rfl (by kernel_rfl) (by kernel_rfl) (by kernel_rfl) (fun _ _ _ h => h) (Or.inl ⟨by rfl, ?_⟩) (by assumption) ?_
            rotate_left
            · (intro w hSw; (try dsimp only at hSw); go_simp; try with_reducible rfl)
            simp only [Act.put, List.setIfInBounds_toArray, List.set_cons_zero, List.set_cons_succ]
            refine wpAnyH_take (i := 14) (oi := ⟨some 54, .indexAddr 39 (.tmp 52) (.tmp 53), 0, "ref.go:186", #[⟨12, .data⟩, ⟨13, .data⟩, ⟨7, .guard⟩], some (7, false)⟩) (v := ?_) rfl (by kernel_rfl) (by kernel_rfl) (by kernel_rfl) (fun _ _ _ h => h) (Or.inl ⟨by rfl, ?_⟩) (by assumption) ?_
            rotate_left
            · (intro w hSw; (try dsimp only at hSw); go_simp; try with_reducible rfl)
            simp only [Act.put, List.setIfInBounds_toArray, List.set_cons_zero, List.set_cons_succ]
            refine wpAnyH_take (i := 15) (oi := ⟨some 55, .load 3 (.tmp 54), 3, "ref.go:186", #[⟨14, .data⟩, ⟨7, .guard⟩], some (7, false)⟩) (v := ?_) rfl (by kernel_rfl) (by kernel_rfl) (by kernel_rfl) (fun _ _ _ h => h) (Or.inl ⟨by rfl, ?_⟩) (by assumption) ?_
            rotate_left
            · (intro w hSw; (try dsimp only at hSw); go_simp; try with_reducible rfl)
            simp only [Act.put, List.setIfInBounds_toArray, List.set_cons_zero, List.set_cons_succ]
            refine wpAnyH_take (i := 16) (oi := ⟨some 56, .indexAddr 39 (.tmp 51) (.tmp 55), 0, "ref.go:186", #[⟨11, .data⟩, ⟨15, .data⟩, ⟨7, .guard⟩], some (7, false)⟩) (v := ?_) rfl (by kernel_rfl) (by kernel_rfl) (by kernel_rfl) (fun _ _ _ h => h) (Or.inl ⟨by rfl, ?_⟩) (by assumption) ?_
            rotate_left
            · (intro w hSw; (try dsimp only at hSw); go_simp; try with_reducible rfl)
            simp only [Act.put, List.setIfInBounds_toArray, List.set_cons_zero, List.set_cons_succ]
            refine wpAnyH_take (i := 17) (oi := ⟨some 57, .load 3 (.tmp 56), 3, "ref.go:186", #[⟨16, .data⟩, ⟨7, .guard⟩], some (7, false)⟩) (v := ?_) rfl (by kernel_rfl) (by kernel_rfl) (by kernel_rfl) (fun _ _ _ h => h) (Or.inl ⟨by rfl, ?_⟩) (by assumption) ?_
            rotate_left
            · (intro w hSw; (try dsimp only at hSw); go_simp; try with_reducible rfl)
            simp only [Act.put, List.setIfInBounds_toArray, List.set_cons_zero, List.set_cons_succ]
            refine wpAnyH_take (i := 18) (oi := ⟨some 58, .binOp .eql 3 (.tmp 57) (.const (.int .i64 0)) 3, 4, "ref.go:186", #[⟨17, .data⟩, ⟨7, .guard⟩], some (7, false)⟩) (v := ?_) rfl (by kernel_rfl) (by kernel_rfl) (by kernel_rfl) (fun _ _ _ h => h) (Or.inl ⟨by rfl, ?_⟩) (by assumption) ?_
            rotate_left
            · (intro w hSw; (try dsimp only at hSw); go_simp; try with_reducible rfl)
            simp only [Act.put, List.setIfInBounds_toArray, List.set_cons_zero, List.set_cons_succ]
            refine wpAnyH_take (i := 19) (oi := ⟨some 59, .pick (.tmp 47) (.const (.bool true)) (.tmp 58), 4, "ref.go:186", #[⟨7, .data⟩, ⟨18, .data⟩], none⟩) (v := ?_) rfl (by kernel_rfl) (by kernel_rfl) (by kernel_rfl) (fun _ _ _ h => h) (Or.inl ⟨by rfl, ?_⟩) (by assumption) ?_
            rotate_left
            · (intro w hSw; (try dsimp only at hSw); go_simp; try with_reducible rfl)
            simp only [Act.put, List.setIfInBounds_toArray, List.set_cons_zero, List.set_cons_succ]
            refine wpAnyH_done (by kernel_rfl) ?_ _
            go_wp2_with fail
            go_roundw
            case rel => exact ⟨i + 1, by omega, by go_num, HST3.out, HM9.out⟩
            case measure => simp [intOf]; omega

        · have htf : P.there x = false := by simpa using ht
          have hK := hKh.out
          rw [htf] at hK
          replace hK := Lib.hid hK
          have hyes := HGL.out (by unfold Pgr.noFlip; rw [htf]; rfl)
          have hoo := HOO.out
          rw [hyes, if_pos rfl, if_pos (by decide)] at hoo
          have HO3 := Lib.hid hoo
          clear hyes hoo ht htf HST HGL hKh CRh
          go_upto_region 8 with fail
          refine wp_region_held_drew (S := fun w' => Mod (fun _ => False) wr w') (by kernel_rfl) (mdr) (fun hHeld => ?_)
          refine wpAnyH_take (i := 0) (oi := ⟨some 40, .move (.tmp 0), 116, "ref.go:186", #[], none⟩) (v := ?_) rfl (by kernel_rfl) (by kernel_rfl) (by kernel_rfl) (fun _ _ _ h => h) (Or.inl ⟨by rfl, ?_⟩) (by assumption) ?_
          rotate_left
          · (intro w hSw; (try dsimp only at hSw); go_simp; try with_reducible rfl)
          simp only [Act.put, List.setIfInBounds_toArray, List.set_cons_zero, List.set_cons_succ]
          refine wpAnyH_take (i := 1) (oi := ⟨some 41, .move (.tmp 4), 39, "ref.go:186", #[], none⟩) (v := ?_) rfl (by kernel_rfl) (by kernel_rfl) (by kernel_rfl) (fun _ _ _ h => h) (Or.inl ⟨by rfl, ?_⟩) (by assumption) ?_
          rotate_left
          · (intro w hSw; (try dsimp only at hSw); go_simp; try with_reducible rfl)
          simp only [Act.put, List.setIfInBounds_toArray, List.set_cons_zero, List.set_cons_succ]
          refine wpAnyH_take (i := 2) (oi := ⟨some 42, .move (.tmp 11), 3, "ref.go:186", #[], none⟩) (v := ?_) rfl (by kernel_rfl) (by kernel_rfl) (by kernel_rfl) (fun _ _ _ h => h) (Or.inl ⟨by rfl, ?_⟩) (by assumption) ?_
          rotate_left
          · (intro w hSw; (try dsimp only at hSw); go_simp; try with_reducible rfl)
          simp only [Act.put, List.setIfInBounds_toArray, List.set_cons_zero, List.set_cons_succ]
          refine wpAnyH_take (i := 3) (oi := ⟨some 43, .indexAddr 39 (.tmp 41) (.tmp 42), 0, "ref.go:186", #[⟨1, .data⟩, ⟨2, .data⟩], none⟩) (v := ?_) rfl (by kernel_rfl) (by kernel_rfl) (by kernel_rfl) (fun _ _ _ h => h) (Or.inl ⟨by rfl, ?_⟩) (by assumption) ?_
          rotate_left
          · (intro w hSw; (try dsimp only at hSw); go_simp; try with_reducible rfl)
          simp only [Act.put, List.setIfInBounds_toArray, List.set_cons_zero, List.set_cons_succ]
          refine wpAnyH_take (i := 4) (oi := ⟨some 44, .load 3 (.tmp 43), 3, "ref.go:186", #[⟨3, .data⟩], none⟩) (v := ?_) rfl (by kernel_rfl) (by kernel_rfl) (by kernel_rfl) (fun _ _ _ h => h) (Or.inl ⟨by rfl, ?_⟩) (by assumption) ?_
          rotate_left
          · (intro w hSw; (try dsimp only at hSw); go_simp; try with_reducible rfl)
          simp only [Act.put, List.setIfInBounds_toArray, List.set_cons_zero, List.set_cons_succ]
          refine held_call (i := 5) (oi := ⟨some 45, .call { callee := .value (.func 134), args := #[.tmp 40, .tmp 44], argTypes := #[116, 3] }, 4, "ref.go:186", #[⟨0, .data⟩, ⟨4, .data⟩], none⟩) (v := (.bool false)) rfl (by kernel_rfl) (by kernel_rfl) (by kernel_rfl) (fun _ _ _ h => h) (by assumption) 134 #[.pointer (some ⟨q, 0, none⟩), .int .i64 x] (by rfl) (fun w => by go_simp) (fun w hSw => hK.out _ hSw) ?_
          simp only [Act.put, List.setIfInBounds_toArray, List.set_cons_zero, List.set_cons_succ]
          refine wpAnyH_take (i := 6) (oi := ⟨some 46, .unOp .not 4 (.tmp 45), 4, "ref.go:186", #[⟨5, .data⟩], none⟩) (v := ?_) rfl (by kernel_rfl) (by kernel_rfl) (by kernel_rfl) (fun _ _ _ h => h) (Or.inl ⟨by rfl, ?_⟩) (by assumption) ?_
          rotate_left
          · (intro w hSw; (try dsimp only at hSw); go_simp; try with_reducible rfl)
          simp only [Act.put, List.setIfInBounds_toArray, List.set_cons_zero, List.set_cons_succ]
          refine wpAnyH_take (i := 7) (oi := ⟨some 47, .move (.tmp 46), 4, "ref.go:186", #[⟨6, .data⟩, ⟨5, .chain⟩], none⟩) (v := ?_) rfl (by kernel_rfl) (by kernel_rfl) (by kernel_rfl) (fun _ _ _ h => h) (Or.inl ⟨by rfl, ?_⟩) (by assumption) ?_
          rotate_left
          · (intro w hSw; (try dsimp only at hSw); go_simp; try with_reducible rfl)
          simp only [Act.put, List.setIfInBounds_toArray, List.set_cons_zero, List.set_cons_succ]
          refine wpAnyH_take (i := 8) (oi := ⟨some 48, .move (.tmp 0), 116, "ref.go:186", #[⟨7, .guard⟩], some (7, false)⟩) (v := undef) rfl (by kernel_rfl) (by kernel_rfl) (by kernel_rfl) (fun _ _ _ h => h) (Or.inr ⟨by rfl, rfl⟩) (by assumption) ?_
          simp only [Act.put, List.setIfInBounds_toArray, List.set_cons_zero, List.set_cons_succ]
          refine wpAnyH_take (i := 9) (oi := ⟨some 49, .nilCheck (.tmp 48), 0, "ref.go:186", #[⟨8, .data⟩, ⟨7, .guard⟩], some (7, false)⟩) (v := undef) rfl (by kernel_rfl) (by kernel_rfl) (by kernel_rfl) (fun _ _ _ h => h) (Or.inr ⟨by rfl, rfl⟩) (by assumption) ?_
          simp only [Act.put, List.setIfInBounds_toArray, List.set_cons_zero, List.set_cons_succ]
          refine wpAnyH_take (i := 10) (oi := ⟨some 50, .fieldAddr 164 (.tmp 49) 2, 0, "ref.go:186", #[⟨9, .data⟩, ⟨7, .guard⟩], some (7, false)⟩) (v := undef) rfl (by kernel_rfl) (by kernel_rfl) (by kernel_rfl) (fun _ _ _ h => h) (Or.inr ⟨by rfl, rfl⟩) (by assumption) ?_
          simp only [Act.put, List.setIfInBounds_toArray, List.set_cons_zero, List.set_cons_succ]
          refine wpAnyH_take (i := 11) (oi := ⟨some 51, .load 39 (.tmp 50), 39, "ref.go:186", #[⟨10, .data⟩, ⟨7, .guard⟩], some (7, false)⟩) (v := undef) rfl (by kernel_rfl) (by kernel_rfl) (by kernel_rfl) (fun _ _ _ h => h) (Or.inr ⟨by rfl, rfl⟩) (by assumption) ?_
          simp only [Act.put, List.setIfInBounds_toArray, List.set_cons_zero, List.set_cons_succ]
          refine wpAnyH_take (i := 12) (oi := ⟨some 52, .move (.tmp 4), 39, "ref.go:186", #[⟨7, .guard⟩], some (7, false)⟩) (v := undef) rfl (by kernel_rfl) (by kernel_rfl) (by kernel_rfl) (fun _ _ _ h => h) (Or.inr ⟨by rfl, rfl⟩) (by assumption) ?_
          simp only [Act.put, List.setIfInBounds_toArray, List.set_cons_zero, List.set_cons_succ]
          refine wpAnyH_take (i := 13) (oi := ⟨some 53, .move (.tmp 11), 3, "ref.go:186", #[⟨7, .guard⟩], some (7, false)⟩) (v := undef) rfl (by kernel_rfl) (by kernel_rfl) (by kernel_rfl) (fun _ _ _ h => h) (Or.inr ⟨by rfl, rfl⟩) (by assumption) ?_
          simp only [Act.put, List.setIfInBounds_toArray, List.set_cons_zero, List.set_cons_succ]
          refine wpAnyH_take (i := 14) (oi := ⟨some 54, .indexAddr 39 (.tmp 52) (.tmp 53), 0, "ref.go:186", #[⟨12, .data⟩, ⟨13, .data⟩, ⟨7, .guard⟩], some (7, false)⟩) (v := undef) rfl (by kernel_rfl) (by kernel_rfl) (by kernel_rfl) (fun _ _ _ h => h) (Or.inr ⟨by rfl, rfl⟩) (by assumption) ?_
          simp only [Act.put, List.setIfInBounds_toArray, List.set_cons_zero, List.set_cons_succ]
          refine wpAnyH_take (i := 15) (oi := ⟨some 55, .load 3 (.tmp 54), 3, "ref.go:186", #[⟨14, .data⟩, ⟨7, .guard⟩], some (7, false)⟩) (v := undef) rfl (by kernel_rfl) (by kernel_rfl) (by kernel_rfl) (fun _ _ _ h => h) (Or.inr ⟨by rfl, rfl⟩) (by assumption) ?_
          simp only [Act.put, List.setIfInBounds_toArray, List.set_cons_zero, List.set_cons_succ]
          refine wpAnyH_take (i := 16) (oi := ⟨some 56, .indexAddr 39 (.tmp 51) (.tmp 55), 0, "ref.go:186", #[⟨11, .data⟩, ⟨15, .data⟩, ⟨7, .guard⟩], some (7, false)⟩) (v := undef) rfl (by kernel_rfl) (by kernel_rfl) (by kernel_rfl) (fun _ _ _ h => h) (Or.inr ⟨by rfl, rfl⟩) (by assumption) ?_
          simp only [Act.put, List.setIfInBounds_toArray, List.set_cons_zero, List.set_cons_succ]
          refine wpAnyH_take (i := 17) (oi := ⟨some 57, .load 3 (.tmp 56), 3, "ref.go:186", #[⟨16, .data⟩, ⟨7, .guard⟩], some (7, false)⟩) (v := undef) rfl (by kernel_rfl) (by kernel_rfl) (by kernel_rfl) (fun _ _ _ h => h) (Or.inr ⟨by rfl, rfl⟩) (by assumption) ?_
          simp only [Act.put, List.setIfInBounds_toArray, List.set_cons_zero, List.set_cons_succ]
          refine wpAnyH_take (i := 18) (oi := ⟨some 58, .binOp .eql 3 (.tmp 57) (.const (.int .i64 0)) 3, 4, "ref.go:186", #[⟨17, .data⟩, ⟨7, .guard⟩], some (7, false)⟩) (v := undef) rfl (by kernel_rfl) (by kernel_rfl) (by kernel_rfl) (fun _ _ _ h => h) (Or.inr ⟨by rfl, rfl⟩) (by assumption) ?_
          simp only [Act.put, List.setIfInBounds_toArray, List.set_cons_zero, List.set_cons_succ]
          refine wpAnyH_take (i := 19) (oi := ⟨some 59, .pick (.tmp 47) (.const (.bool true)) (.tmp 58), 4, "ref.go:186", #[⟨7, .data⟩, ⟨18, .data⟩], none⟩) (v := ?_) rfl (by kernel_rfl) (by kernel_rfl) (by kernel_rfl) (fun _ _ _ h => h) (Or.inl ⟨by rfl, ?_⟩) (by assumption) ?_
          rotate_left
          · (intro w hSw; (try dsimp only at hSw); go_simp; try with_reducible rfl)
          simp only [Act.put, List.setIfInBounds_toArray, List.set_cons_zero, List.set_cons_succ]
          refine wpAnyH_done (by kernel_rfl) ?_ _
          go_wp2
          go_ret
          rw [HO3.out]
          exact ⟨rfl, RSaid.still HP.out HD.out HF.out HM9.out⟩

      · obtain rfl : i = l.length := by omega
        rw [List.take_length] at hany
        have hoo := HOO.out
        rw [hany] at hoo
        simp only [Bool.false_eq_true, if_false] at hoo
        have HOO2 := Lib.hid hoo
        have HANY := Lib.hid hany
        have HM := Lib.hid hm
        clear hany hoo hm
        clear c0 c1 c2 KT
        by_cases hlen : 100 < b.length
        · have hoo := HOO2.out
          rw [if_pos hlen, if_pos (by decide)] at hoo
          replace HOO2 := Lib.hid hoo
          have hl1 : 100 < (b.length : Int) := by omega
          clear hoo hlen
          go_wp2_with fail
          go_ret
          rw [HOO2.out]
          exact ⟨rfl, RSaid.still HP.out HD.out HF.out HM.out⟩
        · have hl1 : (b.length : Int) ≤ 100 := by omega
          have hoo := HOO2.out
          simp only [if_neg hlen, ne_eq, not_true_eq_false, if_false] at hoo
          clear hlen
          have hargs : (page = -1 ∨ P.there page = true) ∧ 1 ≤ next ∧ next ≤ 1152921504606846976 := by
            have h := HBAD.out.symm
            simp only [Bool.or_eq_false_iff, Bool.and_eq_false_iff, decide_eq_false_iff_not, bne_eq_false_iff_eq, Bool.not_eq_false'] at h
            exact ⟨h.1.1, by omega, by omega⟩
          have hpage : -1 ≤ page ∧ page ≤ 4096 := by
            rcases hargs.1 with h | h
            · omega
            · have h2 : 0 ≤ page ∧ page < (P.pages : Int) := of_decide_eq_true h
              omega
          obtain ⟨nx, rfl⟩ : ∃ nx : Nat, next = (nx : Int) := ⟨next.toNat, by omega⟩
          have hnx : nx ≤ 1152921504606846976 := by omega
          obtain ⟨gn, hgn⟩ : ∃ gn, gn = P.root.gen := ⟨_, rfl⟩
          obtain ⟨G, hG⟩ : ∃ G, G = gn + 1 := ⟨_, rfl⟩
          have hG62 : G < 4611686018427387904 := by omega
          have hR : P.toFlip page (nx : Int) b = ⟨G, page, nx, b⟩ := by unfold Pgr.toFlip; rw [Int.toNat_natCast, hG, hgn]
          have hok : Rt.ok ⟨G, page, nx, b⟩ := ⟨hG62, hpage, by show nx < _; omega, by show b.length ≤ 100; omega⟩
          rw [hR, ← hgn, ← hG] at hoo
          replace HOO2 := Lib.hid hoo
          have HOK := Lib.hid hok
          have wG : IntKind.i64.wrap ((gn : Int) + 1) = (G : Int) := by rw [hG]; push_cast; exact IntWalk.i64_in _ (by omega)
          have HG := Lib.hid hG
          have g3 : wr.cell? ⟨q, 3, none⟩ = some (.int .i64 (gn : Int)) := by rw [hgn]; exact HM.out.cell' (HP.out.cell 3) id
          have HNX := Lib.hid hnx
          have hFw : ∀ k, F k → k < w.heap.size := fun k hk => (HD.out.lt k hk).2
          have hqw : q < w.heap.size := lt_of_block HP.out.at_
          have HFW := Lib.hid hFw
          have hbr := HM.out
          have HBW := Lib.hid (HBY.out.mod HM.out (fun _ _ _ => id))
          have ham2 : am = none → cm = 0 := ham
          clear hR hok hG hgn hargs hgen HBAD hoo hFw hbr hnx hpage
          go_upto_region 13 with fail
          obtain ⟨W1, hW1⟩ : ∃ W1, W1 = wr.alloc (.cells #[.int .i64 (G : Int), .int .i64 page, .int .i64 (nx : Int), .slice none 0 0] 108) := ⟨_, rfl⟩
          rw [← hW1]
          have m1 : Mod (fun _ => False) wr W1 := by rw [hW1]; exact Mod.alloc _ _ _
          have k1 : W1.heap[wr.heap.size]? = some (.cells #[.int .i64 (G : Int), .int .i64 page, .int .i64 (nx : Int), .slice none 0 0] 108 (0, 0)) := by rw [hW1]; exact heap_alloc_new _ _
          have z1 : W1.heap.size = wr.heap.size + 1 := by rw [hW1]; simp
          have HB1 := Lib.hid (HBW.out.mod m1 (fun _ _ _ => id))
          obtain ⟨kr, hkr⟩ : ∃ kr, kr = wr.heap.size := ⟨_, rfl⟩
          rw [← hkr] at k1 z1 ⊢
          have e3 : W1.cell? ⟨kr, 3, none⟩ = some (.slice none 0 0) := cell_of_row W1 kr 3 _ 108 (0, 0) k1
          have K1 := Lib.hid k1
          have M1 := Lib.hid m1
          have Z1 := Lib.hid z1
          have HKR := Lib.hid hkr
          clear hW1 m1 k1 g3 z1 hkr wG
          go_upto_region 14 with (at_builtin; refine appB_at rfl _ _ rfl W1.heap.size (.slice none 0 0) [] rfl (OwnB.nil _ _) am _ cm b rfl rfl ham2 HB1.out (by simp; omega) (Nat.le_refl _) ?_; intro v2 w2 o2 m2 p2; rw [List.nil_append] at o2; obtain ⟨a2, cc, rfl, -, -, -⟩ := o2.shape; have k2 := m2.obj K1.out (fun e => by simp [Value.ownBlock] at e); have f2 := thaw_of (i := 3) k2; have c23 := cell_of_row w2 kr 3 _ 108 (0, 0) k2; simp only [List.getElem?_toArray, List.getElem?_cons_zero, List.getElem?_cons_succ] at c23; have M2 := Lib.hid m2; have O2 := Lib.hid o2; have K2 := Lib.hid k2; have P2 := Lib.hid p2; clear m2 o2 k2 p2)
          obtain ⟨wz, hwz⟩ : ∃ wz, wz = w2.setCell ⟨kr, 3, none⟩ (.slice a2 b.length cc) := ⟨_, rfl⟩
          rw [← hwz]
          have ms : Mod (fun k => k = kr) w2 wz := by rw [hwz]; exact Mod.setCell _ _ _ rfl
          have hm2 : Mod (fun _ => False) w w2 := (HM.out.trans' M1.out).trans M2.out (fun k _ e => by simp [Value.ownBlock] at e)
          have hmw : Mod (fun _ => False) w wz := hm2.trans ms (fun k hk e => by have := HKR.out; have := HM.out.size; omega)
          have hz1 := Z1.out
          have hzr := HM.out.size
          have hkr := HKR.out
          have hnek : ∀ k, (Value.slice a2 b.length cc).ownBlock = some k → k = W1.heap.size := fun k hk => by
            rcases P2.out with e | e
            · rw [e] at hk; cases hk
            · rw [e] at hk; injection hk with h; exact h.symm
          have hrl : RL w G page nx b kr a2 cc wz := ⟨hmw, by omega, by rw [hwz, setCell_block K2.out]; rfl, (O2.out.mod ms (fun k hk e => by have := hnek k hk; omega)).weaken (by omega)⟩
          have hle : w.heap.size ≤ wz.heap.size := hmw.size
          have hX0 : RX wz B B2 q r vi vm P F D wz := ⟨HP.out.mod hmw (fun _ _ => id), ⟨F, HD.out.mod hmw (fun _ _ => id), fun k hk => .inl hk⟩, Mod.refl _ _, ⟨by omega, fun e => (HF.out q e).1 rfl⟩, fun k hk => ⟨Nat.lt_of_lt_of_le (World.ownsRow.lt HP.out.is k hk).2 hle, fun e => (HF.out k e).2.1 hk⟩, fun k hk => ⟨Nat.lt_of_lt_of_le (World.ownsRow.lt HP.out.mt k hk).2 hle, fun e => (HF.out k e).2.2 hk⟩⟩
          have hnk : ∀ k, (Value.slice a2 b.length cc).ownBlock = some k → w.heap.size ≤ k := fun k hk => by have := hnek k hk; omega
          have HNK := Lib.hid hnk
          clear hwz ms hm2 hmw hz1 hzr hkr hnek hnk hle f2 c23 M2 O2 K2 P2 M1 Z1 K1 e3 HB1 HBW ham2 HKR HOO
          clear W1 w2
          have KC : ∀ (W : World) (D' : Dsk), RX wz B B2 q r vi vm P F D' W → W.cell? ⟨q, 0, none⟩ = some (.pointer (some ⟨r, 0, none⟩)) ∧ W.cell? ⟨q, 1, none⟩ = some (.int .i64 (P.frm : Int)) ∧
              W.cell? ⟨kr, 0, none⟩ = some (.int .i64 (G : Int)) ∧ W.cell? ⟨kr, 1, none⟩ = some (.int .i64 page) ∧ W.cell? ⟨kr, 2, none⟩ = some (.int .i64 (nx : Int)) ∧ W.cell? ⟨kr, 3, none⟩ = some (.slice a2 b.length cc) := fun W D' h => by
            have hF := HFW.out
            have hlt := hrl.lt
            have hc := fun j => cell_of_row W kr j _ 108 (0, 0) (h.m.obj hrl.rt (fun e => by have := hF _ e; omega))
            exact ⟨h.pg.cells.1, h.pg.cells.2.1, hc 0, hc 1, hc 2, hc 3⟩
          have HC := Lib.hid KC
          have HRL := Lib.hid hrl
          obtain ⟨c1, hc1⟩ : ∃ c1, c1 = D.whySync := ⟨_, rfl⟩
          obtain ⟨x0, -⟩ := KC _ _ hX0
          obtain ⟨F1, hd1, hup⟩ := hX0.turn
          have KS := hd1.sync (by omega)
          rw [← hc1] at KS
          have KS2 : Calls Try.prog 91 #[.pointer (some ⟨r, 0, none⟩)] wz fun e w' => e = .returned (.int .i64 c1) ∧ RX wz B B2 q r vi vm P F D.sync w' := KS.mono fun e w' ⟨h1, h2⟩ => ⟨h1, hup _ _ h2⟩
          have HKS := Lib.hid KS2
          have HC1 := Lib.hid hc1
          clear hrl hX0 KC KS KS2 hd1 hup hc1
          go_wp2_with fail
          refine HKS.out.mono ?_
          rintro e w2 ⟨rfl, hX⟩
          clear HKS x0
          obtain ⟨y0, y1, y2, y3, y4, y5⟩ := HC.out _ _ hX
          have t5 := hX.pg.cells.2.2.2
          have f5 := thaw_of (i := 7) hX.pg.at_
          by_cases h1 : c1 = 0
          · subst h1
            obtain ⟨gm, hgm⟩ : ∃ gm, gm = G % 2 := ⟨_, rfl⟩
            have hgm2 : gm < 2 := by omega
            have wt : (G : Int).tmod 2 = (gm : Int) := by rw [hgm]; exact Int.ofNat_tmod G 2
            have hfit := hwf.fit
            have htop := hwf.top
            have wm : IntKind.i64.wrap (gm : Int) = (gm : Int) := IntWalk.i64_in _ (by omega)
            have ws : IntKind.i64.wrap ((P.frm : Int) + (gm : Int)) = (P.frm : Int) + (gm : Int) := IntWalk.i64_in _ (by omega)
            obtain ⟨s, hs⟩ : ∃ s, s = slotB ⟨G, page, nx, b⟩ := ⟨_, rfl⟩
            have hsl : s.length = 256 := by rw [hs]; exact slotB_length _ HOK.out
            obtain ⟨c2, hc2⟩ : ∃ c2, c2 = D.sync.why ((P.frm : Int) + (gm : Int)) s := ⟨_, rfl⟩
            obtain ⟨D2, hD2⟩ : ∃ D2, D2 = D.sync.write ((P.frm : Int) + (gm : Int)) s := ⟨_, rfl⟩
            have hoo := HOO2.out
            rw [flipD_ok _ _ HC1.out.symm] at hoo
            rw [← hs, show ((P.frm + G % 2 : Nat) : Int) = (P.frm : Int) + (gm : Int) by rw [hgm]; push_cast; rfl, ← hc2, ← hD2] at hoo
            replace HOO2 := Lib.hid hoo
            have KSL : ∀ w', Mod (fun _ => False) w2 w' → Calls Try.prog 135 #[.agg #[.int .i64 (G : Int), .int .i64 page, .int .i64 (nx : Int), .slice a2 b.length cc]] w' fun e w'' => ∃ av cv, e = .returned (.slice av 256 cv) ∧ BytesAt w'' av s ∧ Mod (fun _ => False) w' w'' := fun w' hm => by
              have ho := (HRL.out.ow.mod (hX.m.trans hm (fun _ _ e => e.elim) : Mod F wz w') (fun k hk e => by have := HFW.out _ e; have := HNK.out k hk; omega))
              obtain ⟨a3, c3', e2, -, -, hbv⟩ := ho.shape
              cases e2
              have hz : a2 = none → cc = 0 := fun e => by
                subst e
                rcases ho.2 with ⟨h1, h2⟩ | ⟨g', cap, cur, h1, -⟩
                · injection h1
                · injection h1 with h3; cases h3
              refine (rslot_any ⟨G, page, nx, b⟩ HOK.out a2 b.length cc rfl hz hbv w'.heap.size (Nat.le_refl _)).mono ?_
              rintro e w'' ⟨v, rfl, h2, h3, -⟩
              rw [← hs] at h2
              obtain ⟨av, cv, rfl, -, -, hb2⟩ := h2.shape
              rw [hsl]
              exact ⟨av, cv, rfl, hb2, h3⟩
            have hlim2 : D.sync.l.length + 1 ≤ 1048576 := by
              unfold Dsk.sync
              split
              · exact hlim
              split
              · exact hlim
              · show 0 + 1 ≤ _; omega
            have KW : ∀ w' av cv, Mod (fun _ => False) w2 w' → BytesAt w' av s → Calls Try.prog 90 #[.pointer (some ⟨r, 0, none⟩), .int .i64 ((P.frm : Int) + (gm : Int)), .slice av 256 cv] w' fun e w'' => e = .returned (.int .i64 c2) ∧ RX wz B B2 q r vi vm P F D2 w'' := fun w' av cv hm hb => by
              obtain ⟨F', h1, h2⟩ := (hX.still hm).turn
              rw [hc2, hD2, ← hsl]
              exact (h1.write hlim2 ((P.frm : Int) + (gm : Int)) av s cv hb (by omega)).mono fun e w'' ⟨he, ht⟩ => ⟨he, h2 _ _ ht⟩
            have HS := Lib.hid hs
            have HSL := Lib.hid hsl
            have HGM := Lib.hid hgm
            have HC2 := Lib.hid hc2
            have HD2 := Lib.hid hD2
            have HL2 := Lib.hid (show D2.l.length ≤ 1048576 by
              rw [hD2]
              have := (Dsk.wf.write_len (D := D.sync) ((P.frm : Int) + (gm : Int)) s).2
              omega)
            have KSh := Lib.hid KSL
            have KWh := Lib.hid KW
            have mdr2 : Mod (fun _ => False) w2 w2.drew := Mod.drew _ _
            have hXd := hX.still mdr2
            have HX := Lib.hid hX
            have WT := Lib.hid wt
            have WS := Lib.hid ws
            clear hs hsl hgm hc2 hD2 KSL KW hoo hX y0 y1 y2 y3 y4 y5 t5 f5 hlim2
            go_upto_region 16 with fail
            have CS := HC.out
            go_cut [13] (fun v13 wx => v13 = .int .i64 c2 ∧ RX wz B B2 q r vi vm P F D2 wx)
            case first =>
              have wt := WT.out
              have ws := WS.out
              refine wp_region_held_drew (S := fun w' => w'.cell? ⟨q, 0, none⟩ = some (.pointer (some ⟨r, 0, none⟩)) ∧ w'.cell? ⟨q, 1, none⟩ = some (.int .i64 (P.frm : Int)) ∧ w'.cell? ⟨kr, 0, none⟩ = some (.int .i64 (G : Int)) ∧ w'.cell? ⟨kr, 1, none⟩ = some (.int .i64 page) ∧ w'.cell? ⟨kr, 2, none⟩ = some (.int .i64 (nx : Int)) ∧ w'.cell? ⟨kr, 3, none⟩ = some (.slice a2 b.length cc)) (by kernel_rfl) (CS _ _ hXd) (fun hHeld => ?_)
              refine wpAnyH_take (i := 0) (oi := ⟨some 84, .move (.tmp 0), 116, "ref.go:197", #[], none⟩) (v := ?_) rfl (by kernel_rfl) (by kernel_rfl) (by kernel_rfl) (fun _ _ _ h => h) (Or.inl ⟨by rfl, ?_⟩) (by assumption) ?_
              rotate_left
              · (intro w hSw; (try dsimp only at hSw); go_simp; try with_reducible rfl)
              simp only [Act.put, List.setIfInBounds_toArray, List.set_cons_zero, List.set_cons_succ]
              refine wpAnyH_take (i := 1) (oi := ⟨some 85, .nilCheck (.tmp 84), 0, "ref.go:197", #[⟨0, .data⟩], none⟩) (v := ?_) rfl (by kernel_rfl) (by kernel_rfl) (by kernel_rfl) (fun _ _ _ h => h) (Or.inl ⟨by rfl, ?_⟩) (by assumption) ?_
              rotate_left
              · (intro w hSw; (try dsimp only at hSw); go_simp; try with_reducible rfl)
              simp only [Act.put, List.setIfInBounds_toArray, List.set_cons_zero, List.set_cons_succ]
              refine wpAnyH_take (i := 2) (oi := ⟨some 86, .fieldAddr 164 (.tmp 85) 0, 0, "ref.go:197", #[⟨1, .data⟩], none⟩) (v := ?_) rfl (by kernel_rfl) (by kernel_rfl) (by kernel_rfl) (fun _ _ _ h => h) (Or.inl ⟨by rfl, ?_⟩) (by assumption) ?_
              rotate_left
              · (intro w hSw; (try dsimp only at hSw); go_simp; try with_reducible rfl)
              simp only [Act.put, List.setIfInBounds_toArray, List.set_cons_zero, List.set_cons_succ]
              refine wpAnyH_take (i := 3) (oi := ⟨some 87, .load 60 (.tmp 86), 60, "ref.go:197", #[⟨2, .data⟩], none⟩) (v := ?_) rfl (by kernel_rfl) (by kernel_rfl) (by kernel_rfl) (fun _ _ _ h => h) (Or.inl ⟨by rfl, ?_⟩) (by assumption) ?_
              rotate_left
              · (intro w hSw; (try dsimp only at hSw); go_simp; try with_reducible rfl)
              simp only [Act.put, List.setIfInBounds_toArray, List.set_cons_zero, List.set_cons_succ]
              refine wpAnyH_take (i := 4) (oi := ⟨some 88, .move (.tmp 0), 116, "ref.go:197", #[], none⟩) (v := ?_) rfl (by kernel_rfl) (by kernel_rfl) (by kernel_rfl) (fun _ _ _ h => h) (Or.inl ⟨by rfl, ?_⟩) (by assumption) ?_
              rotate_left
              · (intro w hSw; (try dsimp only at hSw); go_simp; try with_reducible rfl)
              simp only [Act.put, List.setIfInBounds_toArray, List.set_cons_zero, List.set_cons_succ]
              refine wpAnyH_take (i := 5) (oi := ⟨some 89, .nilCheck (.tmp 88), 0, "ref.go:197", #[⟨4, .data⟩], none⟩) (v := ?_) rfl (by kernel_rfl) (by kernel_rfl) (by kernel_rfl) (fun _ _ _ h => h) (Or.inl ⟨by rfl, ?_⟩) (by assumption) ?_
              rotate_left
              · (intro w hSw; (try dsimp only at hSw); go_simp; try with_reducible rfl)
              simp only [Act.put, List.setIfInBounds_toArray, List.set_cons_zero, List.set_cons_succ]
              refine wpAnyH_take (i := 6) (oi := ⟨some 90, .fieldAddr 164 (.tmp 89) 1, 0, "ref.go:197", #[⟨5, .data⟩], none⟩) (v := ?_) rfl (by kernel_rfl) (by kernel_rfl) (by kernel_rfl) (fun _ _ _ h => h) (Or.inl ⟨by rfl, ?_⟩) (by assumption) ?_
              rotate_left
              · (intro w hSw; (try dsimp only at hSw); go_simp; try with_reducible rfl)
              simp only [Act.put, List.setIfInBounds_toArray, List.set_cons_zero, List.set_cons_succ]
              refine wpAnyH_take (i := 7) (oi := ⟨some 91, .load 3 (.tmp 90), 3, "ref.go:197", #[⟨6, .data⟩], none⟩) (v := ?_) rfl (by kernel_rfl) (by kernel_rfl) (by kernel_rfl) (fun _ _ _ h => h) (Or.inl ⟨by rfl, ?_⟩) (by assumption) ?_
              rotate_left
              · (intro w hSw; (try dsimp only at hSw); go_simp; try with_reducible rfl)
              simp only [Act.put, List.setIfInBounds_toArray, List.set_cons_zero, List.set_cons_succ]
              refine wpAnyH_take (i := 8) (oi := ⟨some 92, .fieldAddr 108 (.tmp 12) 0, 0, "ref.go:197", #[], none⟩) (v := ?_) rfl (by kernel_rfl) (by kernel_rfl) (by kernel_rfl) (fun _ _ _ h => h) (Or.inl ⟨by rfl, ?_⟩) (by assumption) ?_
              rotate_left
              · (intro w hSw; (try dsimp only at hSw); go_simp; try with_reducible rfl)
              simp only [Act.put, List.setIfInBounds_toArray, List.set_cons_zero, List.set_cons_succ]
              refine wpAnyH_take (i := 9) (oi := ⟨some 93, .load 2 (.tmp 92), 2, "ref.go:197", #[⟨8, .data⟩], none⟩) (v := ?_) rfl (by kernel_rfl) (by kernel_rfl) (by kernel_rfl) (fun _ _ _ h => h) (Or.inl ⟨by rfl, ?_⟩) (by assumption) ?_
              rotate_left
              · (intro w hSw; (try dsimp only at hSw); go_simp; try with_reducible rfl)
              simp only [Act.put, List.setIfInBounds_toArray, List.set_cons_zero, List.set_cons_succ]
              refine wpAnyH_take (i := 10) (oi := ⟨some 94, .binOp .rem 2 (.tmp 93) (.const (.int .i64 2)) 2, 2, "ref.go:197", #[⟨9, .data⟩], none⟩) (v := ?_) rfl (by kernel_rfl) (by kernel_rfl) (by kernel_rfl) (fun _ _ _ h => h) (Or.inl ⟨by rfl, ?_⟩) (by assumption) ?_
              rotate_left
              · (intro w hSw; (try dsimp only at hSw); go_simp; try with_reducible rfl)
              simp only [Act.put, List.setIfInBounds_toArray, List.set_cons_zero, List.set_cons_succ]
              refine wpAnyH_take (i := 11) (oi := ⟨some 95, .binOp .add 3 (.tmp 91) (.tmp 94) 3, 3, "ref.go:197", #[⟨7, .data⟩, ⟨10, .data⟩], none⟩) (v := ?_) rfl (by kernel_rfl) (by kernel_rfl) (by kernel_rfl) (fun _ _ _ h => h) (Or.inl ⟨by rfl, ?_⟩) (by assumption) ?_
              rotate_left
              · (intro w hSw; (try dsimp only at hSw); go_simp; try with_reducible rfl)
              simp only [Act.put, List.setIfInBounds_toArray, List.set_cons_zero, List.set_cons_succ]
              refine wpAnyH_take (i := 12) (oi := ⟨some 96, .load 108 (.tmp 12), 108, "ref.go:197", #[], none⟩) (v := ?_) rfl (by kernel_rfl) (by kernel_rfl) (by kernel_rfl) (fun _ _ _ h => h) (Or.inl ⟨by rfl, ?_⟩) (by assumption) ?_
              rotate_left
              · (intro w hSw; (try dsimp only at hSw); go_simp; try with_reducible rfl)
              simp only [Act.put, List.setIfInBounds_toArray, List.set_cons_zero, List.set_cons_succ]
              refine wpAnyH_ready (rs := [13]) (by kernel_rfl) (by simp) ?_
              refine AllReadyH.cons (o := ⟨some 97, .call { callee := .value (.func 135), args := #[.tmp 96], argTypes := #[108] }, 22, "ref.go:197", #[⟨12, .data⟩], none⟩) rfl (fun K hK => ?_) AllReadyH.nil
              go_simp
              refine (KSh.out _ mdr2).mono ?_
              rintro r1 wa ⟨av, cv, rfl, hbv, ma0⟩
              have ma := mdr2.trans' ma0
              try simp only []
              refine hK.out _ _ (CS _ _ (hXd.still ma0)) (fun _ => ?_)
              clear hK K
              try simp only [Act.put, List.setIfInBounds_toArray, List.set_cons_zero, List.set_cons_succ]
              refine wpAnyH_ready (rs := [14]) (by kernel_rfl) (by simp) ?_
              refine AllReadyH.cons (o := ⟨some 98, .call { callee := .value (.func 90), args := #[.tmp 87, .tmp 95, .tmp 97], argTypes := #[60, 3, 22] }, 32, "ref.go:197", #[⟨3, .data⟩, ⟨11, .data⟩, ⟨13, .data⟩, ⟨13, .chain⟩], none⟩) rfl (fun K hK => ?_) AllReadyH.nil
              go_simp
              refine (KWh.out _ av cv ma hbv).mono ?_
              rintro r1 wb ⟨rfl, hX2⟩
              try simp only []
              refine hK.out _ _ (CS _ _ hX2) (fun _ => ?_)
              clear hK K
              try simp only [Act.put, List.setIfInBounds_toArray, List.set_cons_zero, List.set_cons_succ]
              refine wpAnyH_take (i := 15) (oi := ⟨some 13, .assign (.tmp 98), 32, "ref.go:197", #[⟨14, .data⟩, ⟨14, .chain⟩, ⟨0, .phase⟩, ⟨1, .phase⟩, ⟨2, .phase⟩, ⟨3, .phase⟩, ⟨4, .phase⟩, ⟨5, .phase⟩, ⟨6, .phase⟩, ⟨7, .phase⟩, ⟨8, .phase⟩, ⟨9, .phase⟩, ⟨10, .phase⟩, ⟨11, .phase⟩, ⟨12, .phase⟩, ⟨13, .phase⟩, ⟨14, .phase⟩], none⟩) (v := ?_) rfl (by kernel_rfl) (by kernel_rfl) (by kernel_rfl) (fun _ _ _ h => h) (Or.inl ⟨by rfl, ?_⟩) (by assumption) ?_
              rotate_left
              · (intro w hSw; (try dsimp only at hSw); go_simp; try with_reducible rfl)
              simp only [Act.put, List.setIfInBounds_toArray, List.set_cons_zero, List.set_cons_succ]
              refine wpAnyH_done (by kernel_rfl) ?_ _
              go_wp2_with fail
              go_meet
              exact ⟨rfl, hX2⟩

            case rest =>
              obtain ⟨rfl, hX2⟩ := hcut
              obtain ⟨y0, y1, y2, y3, y4, y5⟩ := CS _ _ hX2
              have t5 := hX2.pg.cells.2.2.2
              have f5 := thaw_of (i := 7) hX2.pg.at_
              clear CS KSh KWh hXd mdr2
              by_cases h2 : c2 = 0
              · subst h2
                have hoo := HOO2.out
                simp only [ne_eq, not_true_eq_false, if_false] at hoo
                obtain ⟨c3, hc3⟩ : ∃ c3, c3 = D2.whySync := ⟨_, rfl⟩
                rw [← hc3] at hoo
                obtain ⟨F1, hd1, hup⟩ := hX2.turn
                have KS2 : Calls Try.prog 91 #[.pointer (some ⟨r, 0, none⟩)] wc fun e w' => e = .returned (.int .i64 c3) ∧ RX wz B B2 q r vi vm P F D2.sync w' := by
                  rw [hc3]
                  exact (hd1.sync HL2.out).mono fun e w' ⟨h1, h2⟩ => ⟨h1, hup _ _ h2⟩
                have HKS := Lib.hid KS2
                have HX2 := Lib.hid hX2
                replace HOO2 := Lib.hid hoo
                have HC3 := Lib.hid hc3
                clear hX2 hd1 hup KS2 t5 f5 hoo hc3
                go_wp2_with fail
                refine HKS.out.mono ?_
                rintro e w5 ⟨rfl, hX5⟩
                clear HKS y0 y1 y2 y3 y4 y5
                obtain ⟨y0, y1, y2, y3, y4, y5⟩ := HC.out _ _ hX5
                by_cases h3 : c3 = 0
                · subst h3
                  have hoo := HOO2.out
                  rw [if_pos rfl] at hoo
                  have q3 := hX5.pg.cell 3
                  have q4 := hX5.pg.cell 4
                  have q5 := hX5.pg.cell 5
                  have q6 := hX5.pg.cell 6
                  simp only [rpCells, List.getElem?_toArray, List.getElem?_cons_zero, List.getElem?_cons_succ] at q3 q4 q5 q6
                  have g0 := thaw_of (i := 3) hX5.pg.at_
                  have g1 := thaw_of (i := 4) hX5.pg.at_
                  have g2 := thaw_of (i := 5) hX5.pg.at_
                  have g3 := thaw_of (i := 6) hX5.pg.at_
                  have hF := HFW.out
                  have ho5 : OwnB w5 B (.slice a2 b.length cc) b := (HRL.out.ow.mod hX5.m (fun k hk e => by have := hF _ e; have := HNK.out k hk; omega)).weaken hB
                  have hR := hX5.pg.setRoot ⟨G, page, nx, b⟩ ho5
                  have hM : ∀ (w : World) (j : Nat) (x : Value), Mod (fun k => k = q) w (w.setCell ⟨q, j, none⟩ x) := fun w j x => Mod.setCell _ _ _ rfl
                  have m6 := (((hM w5 3 (.int .i64 (G : Int))).trans' (hM _ 4 (.int .i64 page))).trans' (hM _ 5 (.int .i64 (nx : Int)))).trans' (hM _ 6 (.slice a2 b.length cc))
                  have hl5 := (HL.out.mod HRL.out.m (fun _ _ _ => id)).mod hX5.m (fun x hx hne => (HLA.out x hx hne).2)
                  have hl6 := hl5.mod m6 (fun x hx hne => (HLA.out x hx hne).1)
                  have hall : ∀ x ∈ l, 0 ≤ x ∧ x < (P.pages : Int) := fun x hx => by
                    have h := HANY.out
                    rw [List.any_eq_false] at h
                    have h := h x hx
                    unfold Pgr.noFlip at h
                    have ht : P.there x = true := by
                      cases h7 : P.there x
                      · rw [h7] at h; exact absurd rfl h
                      · rfl
                    exact of_decide_eq_true ht
                  have hz6 := m6.size
                  have hz5 := hX5.m.size
                  have hzr := HRL.out.m.size
                  have hset := rset_any hR (Nat.le_trans hB (Nat.le_trans hzr (Nat.le_trans hz5 hz6))) a l l.length cap rfl hll hl6 (fun x hx hne => (HLA.out x hx hne).1) hall
                  have HSET := Lib.hid hset
                  have HX5 := Lib.hid hX5
                  have M6 := Lib.hid m6
                  replace HOO2 := Lib.hid hoo
                  clear hset hX5 hR m6 hl5 hl6 ho5 hoo hF hall hM hz6 hz5 hzr
                  go_wp2_with fail
                  refine HSET.out.mono ?_
                  rintro e w7 ⟨rfl, ⟨vi', hp7, hv7⟩, m7⟩
                  simp only [HDD.out] at hp7
                  have HP7 := Lib.hid hp7
                  have M7 := Lib.hid m7
                  have HV7 := Lib.hid hv7
                  clear hp7 m7 HSET y0 y1 y2 y3 y4 y5 q3 q4 q5 q6 g0 g1 g2 g3 hv7
                  go_wp2
                  go_ret
                  obtain ⟨F', e1, e2⟩ := HX5.out.dk
                  have hF := HFW.out
                  have hzr := HRL.out.m.size
                  have m67 := M6.out.trans' M7.out
                  rw [HOO2.out]
                  have hqF' : ¬ F' q := fun e => by
                    rcases e2 _ e with e | e
                    · exact (HF.out q e).1 rfl
                    · omega
                  refine ⟨rfl, vi', _, F', HP7.out, e1.mod m67 (fun k hk e => hqF' (e ▸ hk)), fun k hk => (e2 k hk).imp id (fun e => by omega), fun k hk => ?_, fun k hk => ?_, hqF', ((HRL.out.m.mono (fun _ _ e => e.elim)).trans' (HX5.out.m.mono (fun _ _ e => .inr (.inr e)))).trans' (m67.mono (fun _ _ e => .inl e))⟩
                  · have h1 := HV7.out k hk
                    have h6 := M6.out.size
                    have h5 := HX5.out.m.size
                    refine ⟨.inr (by omega), fun e => ?_⟩
                    have := (e1.lt k e).2
                    omega
                  · have h1 := HNK.out k hk
                    have h2 := (World.ownsRow.lt HRL.out.ow k hk).2
                    refine ⟨.inr h1, fun e => ?_⟩
                    rcases e2 k e with e | e
                    · have := hF k e; omega
                    · omega
                · have hoo := HOO2.out
                  rw [if_neg h3] at hoo
                  have hb2 : (c3 != 0) = true := by simpa using h3
                  have t5 := hX5.pg.cells.2.2.2
                  have f5 := thaw_of (i := 7) hX5.pg.at_
                  have HDE := Lib.hid (hX5.die HRL.out.m)
                  replace HOO2 := Lib.hid hoo
                  clear hoo h3 hX5 y1 y2 y3 y4 y5
                  go_wp2
                  go_ret
                  rw [HOO2.out]
                  exact ⟨rfl, HDE.out⟩
              · have hoo := HOO2.out
                rw [if_pos h2] at hoo
                simp only at hoo
                rw [if_neg h2] at hoo
                have hb1 : (c2 == 0) = false := by simpa using h2
                have hb2 : (c2 != 0) = true := by simpa using h2
                have HDE := Lib.hid (hX2.die HRL.out.m)
                replace HOO2 := Lib.hid hoo
                clear hoo h2 hX2 y1 y2 y3 y4 y5
                go_wp2
                go_ret
                rw [HOO2.out]
                exact ⟨rfl, HDE.out⟩
          · have hoo := HOO2.out
            have hD1 : D.whySync ≠ 0 := by rw [← HC1.out]; exact h1
            rw [flipD_no _ _ hD1] at hoo
            simp only at hoo
            rw [if_neg hD1, ← HC1.out] at hoo
            have hb1 : (c1 == 0) = false := by simpa using h1
            have hb2 : (c1 != 0) = true := by simpa using h1
            have HX := Lib.hid hX
            replace HOO2 := Lib.hid hoo
            have HDE := Lib.hid (hX.die HRL.out.m)
            clear hoo h1 hD1 hX y1 y2 y3 y4 y5
            go_wp2
            go_ret
            rw [HOO2.out]
            exact ⟨rfl, HDE.out⟩
end
end Go.Proofs.Ytdinnkacilgmmaa
