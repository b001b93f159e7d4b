/- The pager: slot. -/
import Derived.Test.YtdinnkacilgmmaaPag3
namespace Go.Proofs.Ytdinnkacilgmmaa
open Go.RowKit

theorem splice_at {n m : Nat} (A B Z : List UInt8) (hA : A.length = n) (hB : B.length = m) (hZ : m ≤ Z.length) : splice (A ++ Z) n B = A ++ B ++ Z.drop m := by
  subst hA hB
  unfold splice
  rw [List.take_left, List.drop_append]
  simp
theorem slot_fill (R : Rt) :
    (splice (splice (splice (List.replicate 21 0) 0 (le 8 R.gen)) 8 (le 4 (R.page + 1).toNat)) 12 (le 8 R.next)).set 20 (UInt8.ofNat R.mt.length) = slotPre R := by
  have e1 : splice (List.replicate 21 (0 : UInt8)) 0 (le 8 R.gen) = le 8 R.gen ++ List.replicate 13 0 := by
    unfold splice; rw [le_length, List.take_zero, List.nil_append, List.drop_replicate]
  rw [e1, splice_at _ _ _ (le_length _ _) (le_length _ _) (by simp), List.drop_replicate, splice_at _ _ _ (by simp [le_length]) (le_length _ _) (by simp), List.drop_replicate]
  rw [List.set_append_right _ _ (by simp [le_length])]
  simp only [List.length_append, le_length]
  rfl

set_option maxHeartbeats 1000000 in
set_option maxRecDepth 100000 in
theorem slot_any {w : World} (R : Rt) (hR : R.ok) (a : Option Addr) (n cap : Nat) (hn : R.mt.length = n) (ha : a = none → cap = 0) (hb : BytesAt w a R.mt) (C : Nat) (hC : C ≤ w.heap.size) :
    Calls Try.prog 111 #[rootV R (.slice a n cap)] w fun e w' => ∃ v, e = .returned v ∧ OwnB w' C v (slotB R) ∧ Mod (fun _ => False) w w' ∧ (∀ k, v.ownBlock = some k → w.heap.size ≤ k) := by
  subst hn
  unfold rootV
  obtain ⟨W1, hW1⟩ : ∃ W1, W1 = w.alloc (.cells #[.int .i64 (R.gen : Int), .int .i64 R.page, .int .i64 (R.next : Int), .slice a R.mt.length cap] 95) := ⟨_, rfl⟩
  obtain ⟨b1, hb1⟩ : ∃ b1, b1 = w.heap.size := ⟨_, rfl⟩
  have k1 : W1.heap[b1]? = some (.cells #[.int .i64 (R.gen : Int), .int .i64 R.page, .int .i64 (R.next : Int), .slice a R.mt.length cap] 95 (0, 0)) := by rw [hW1, hb1]; exact heap_alloc_new _ _
  have m1 : Mod (fun _ => False) w W1 := by rw [hW1]; exact Mod.alloc _ _ _
  have s1 : W1.heap.size = b1 + 1 := by rw [hW1, hb1]; simp
  obtain ⟨W2, hW2⟩ : ∃ W2, W2 = W1.alloc (.cells (zerosV 21) 5) := ⟨_, rfl⟩
  have m2 : Mod (fun _ => False) W1 W2 := by rw [hW2]; exact Mod.alloc _ _ _
  have o2 : OwnB W2 (b1 + 1) (.slice (some ⟨b1 + 1, 0, none⟩) 21 21) (List.replicate 21 0) := by
    have := OwnB.made W1 (b1 + 1) (List.replicate 21 0) (zerosV 21) rfl (by omega) (by rw [List.length_replicate]; decide)
    rw [List.length_replicate, ← hW2, s1] at this
    exact this
  have km : (Instr.makeSlice 22 (.int .i64 21) (.int .i64 21)).run Try.prog W1 = .ok (.slice (some ⟨b1 + 1, 0, none⟩) 21 21) W2 := by
    rw [hW2, ← s1]; exact run_make_bytes W1 21 (by decide)
  have hg := hR.gen
  have hp := hR.page
  have hx := hR.next
  have hmt := hR.mt
  have wp : IntKind.i64.wrap (R.page + 1) = R.page + 1 := IntWalk.i64_in _ (by omega)
  have wg : IntKind.u64.wrap (R.gen : Int) = (R.gen : Int) := IntWalk.u64_in _ (by omega)
  have wx : IntKind.u64.wrap (R.next : Int) = (R.next : Int) := IntWalk.u64_in _ (by omega)
  obtain ⟨pn, hpn⟩ : ∃ pn : Nat, pn = (R.page + 1).toNat := ⟨_, rfl⟩
  have hpe : R.page + 1 = (pn : Int) := by omega
  have wq : IntKind.u64.wrap (R.page + 1) = (pn : Int) := by rw [hpe]; exact IntWalk.u64_in _ (by omega)
  have k2 := m2.obj k1 id
  have HW1 := Lib.hid hW1
  have M2 := Lib.hid (m1.trans' m2)
  have HB := Lib.hid hb
  have HB1 := Lib.hid hb1
  have HC := Lib.hid hC
  have HPN := Lib.hid hpn
  rw [hW1] at km
  have HPE := Lib.hid hpe
  clear hW2 hW1 m1 m2 hb hC hpn hpe
  go_enter Try.func111, Try.ntmps111
  have hb1' := hb1.symm
  clear hb1
  go_upto_region 2 with fail
  clear hb1'
  have M0 := Lib.hid (Mod.refl (fun k => k = b1 + 1) W2)
  have q0 : W2.cell? ⟨b1, 0, none⟩ = some (.int .i64 (R.gen : Int)) := cell_of_row W2 b1 0 _ 95 (0, 0) k2
  have md : Mod (fun _ => False) W2 W2.drew := Mod.drew _ _
  go_region_held3 (fun w' => w'.cell? ⟨b1, 0, none⟩ = some (.int .i64 (R.gen : Int))) (first | (show _ = _; simpa using q0) | exact hm3.cell' (by simpa using q0) (by show ¬ b1 = b1 + 1; omega))
    ((go_at_call 130; refine (put_any (o2.mod md (fun _ _ => id)) 0 8 21 (by decide) (by simp) R.gen).mono ?_; rintro e w3 ⟨rfl, o3, hm3⟩))
  replace hm3 := (md.mono (G := fun k => k = b1 + 1) (fun _ _ e => e.elim)).trans' hm3
  have k3 := hm3.obj k2 (by omega)
  have q1 : w3.cell? ⟨b1, 1, none⟩ = some (.int .i64 R.page) := cell_of_row w3 b1 1 _ 95 (0, 0) k3
  have M3 := Lib.hid hm3
  clear hm3 md o2 k2 q0
  go_upto_region 3 with fail
  have md : Mod (fun _ => False) w3 w3.drew := Mod.drew _ _
  go_region_held3 (fun w' => w'.cell? ⟨b1, 1, none⟩ = some (.int .i64 R.page)) (first | (show _ = _; simpa using q1) | exact hm3.cell' (by simpa using q1) (by show ¬ b1 = b1 + 1; omega))
    ((go_at_call 130; refine (put_any (o3.mod md (fun _ _ => id)) 8 4 13 (by decide) (by rw [length_splice] <;> simp [le_length]) pn).mono ?_; rintro e w4 ⟨rfl, o4, hm3⟩))
  replace hm3 := (md.mono (G := fun k => k = b1 + 1) (fun _ _ e => e.elim)).trans' hm3
  have k4 := hm3.obj k3 (by omega)
  have q2 : w4.cell? ⟨b1, 2, none⟩ = some (.int .i64 (R.next : Int)) := cell_of_row w4 b1 2 _ 95 (0, 0) k4
  have M4 := Lib.hid (M3.out.trans' hm3)
  clear hm3 md o3 k3 q1
  go_upto_region 4 with fail
  have md : Mod (fun _ => False) w4 w4.drew := Mod.drew _ _
  have hl4 : (splice (splice (List.replicate 21 (0 : UInt8)) 0 (le 8 R.gen)) 8 (le 4 pn)).length = 21 := by
    rw [length_splice, length_splice] <;> simp [length_splice, le_length]
  go_region_held3 (fun w' => w'.cell? ⟨b1, 2, none⟩ = some (.int .i64 (R.next : Int))) (first | (show _ = _; simpa using q2) | exact hm3.cell' (by simpa using q2) (by show ¬ b1 = b1 + 1; omega))
    ((go_at_call 130; refine (put_any (o4.mod md (fun _ _ => id)) 12 8 9 (by decide) (by rw [hl4]; decide) R.next).mono ?_; rintro e w5 ⟨rfl, o5, hm3⟩))
  replace hm3 := (md.mono (G := fun k => k = b1 + 1) (fun _ _ e => e.elim)).trans' hm3
  have k5 := hm3.obj k4 (by omega)
  have q3 : w5.cell? ⟨b1, 3, none⟩ = some (.slice a R.mt.length cap) := cell_of_row w5 b1 3 _ 95 (0, 0) k5
  have M5 := Lib.hid (M4.out.trans' hm3)
  clear hm3 md o4 k4 q2
  have hl5 : (splice (splice (splice (List.replicate 21 (0 : UInt8)) 0 (le 8 R.gen)) 8 (le 4 pn)) 12 (le 8 R.next)).length = 21 := by
    rw [length_splice _ _ _ (by rw [hl4, le_length]; decide), hl4]
  obtain ⟨y0, y1⟩ := o5.cellAt 20 (by omega)
  have o6 := o5.store 20 (UInt8.ofNat R.mt.length)
  have hbv : byteV (UInt8.ofNat R.mt.length) = Value.int .u8 (R.mt.length : Int) := by
    show Value.int .u8 ((UInt8.ofNat R.mt.length).toNat : Int) = _
    rw [UInt8.toNat_ofNat']
    congr 1
    omega
  rw [HPN.out, slot_fill, hbv] at o6
  generalize (splice (splice (splice (List.replicate 21 (0 : UInt8)) 0 (le 8 R.gen)) 8 (le 4 pn)) 12 (le 8 R.next))[20] = cz at *
  have hb5 := HB.out.mod (M2.out.trans M5.out (fun j hj e => by have := HB1.out; omega)) (fun _ _ _ => id)
  have hlt : ∀ x, a = some x → R.mt ≠ [] → ¬ x.block = b1 + 1 := fun x hx hne e => by
    have h := HB.out
    rw [hx] at h
    have := h.lt hne
    have := HB1.out
    omega
  have hb6 : BytesAt (w5.setCell ⟨b1 + 1, 20, none⟩ (Value.int .u8 (R.mt.length : Int))) a R.mt := hb5.mod (Mod.setCell (F := fun k => k = b1 + 1) _ _ _ rfl) hlt
  have m6 : Mod (fun k => k = b1 + 1) W2 (w5.setCell ⟨b1 + 1, 20, none⟩ (Value.int .u8 (R.mt.length : Int))) := M5.out.trans' (Mod.setCell (F := fun k => k = b1 + 1) _ _ _ rfl)
  have h6 : b1 + 1 ≤ (w5.setCell ⟨b1 + 1, 20, none⟩ (Value.int .u8 (R.mt.length : Int))).heap.size := Nat.le_of_lt (World.ownsRow.lt o6 (b1 + 1) rfl).2
  have hpl := slotPre_length R
  have O6 := Lib.hid o6
  have HB6 := Lib.hid hb6
  have M6 := Lib.hid m6
  have H6 := Lib.hid h6
  have HPL := Lib.hid hpl
  have HA := Lib.hid ha
  have HR := Lib.hid hR
  clear o5 o6 hb5 hb6 hl4 hl5 k5 hbv hlt h6 hpl k1 km M0 ha hR m6
  go_upto_region 6 with fail
  go_wp2_with (first
    | (at_builtin; refine appB rfl _ _ rfl (b1 + 1) _ (slotPre R) rfl O6.out _ _ _ R.mt rfl rfl HA.out HB6.out (by rw [HPL.out]; omega) H6.out ?_; intro v7 w7 o7 m7 hn7))
  replace m7 : Mod (fun k => k = b1 + 1) _ w7 := m7.mono (fun k _ e => by injection e)
  have m8 : Mod (fun _ => False) w w7 := M2.out.trans (M6.out.trans' m7) (fun j hj e => by have := HB1.out; omega)
  obtain ⟨a7, c7, rfl, -, -, hb7⟩ := o7.shape
  have hl7 : (slotPre R ++ R.mt).length ≤ 252 := by rw [List.length_append, HPL.out]; omega
  refine (sealed_any a7 (slotPre R ++ R.mt) _ c7 rfl hl7 hb7 w7.heap.size (Nat.le_refl _)).mono ?_
  rintro e w9 ⟨v, rfl, o9, m9, hv⟩
  have O9 := Lib.hid o9
  have M9 := Lib.hid (m8.trans' m9)
  have M8 := Lib.hid m8
  have HV := Lib.hid hv
  clear o9 m9 m8 hv o7 m7 hn7 hb7
  go_wp2
  go_ret
  exact ⟨_, rfl, O9.out.weaken (by have := M8.out.size; have := HC.out; omega), M9.out, fun k hk => by have := HV.out k hk; have := M8.out.size; omega⟩
end Go.Proofs.Ytdinnkacilgmmaa
