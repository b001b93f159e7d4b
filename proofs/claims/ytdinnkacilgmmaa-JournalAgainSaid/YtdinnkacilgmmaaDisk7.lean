/- The disk's calls, said of a disk whose rows are not named; what fixed calls give. -/
import Derived.Test.YtdinnkacilgmmaaDisk6
import Derived.Test.YtdinnkacilgmmaaTells
namespace Go.Proofs.Ytdinnkacilgmmaa
open Go.RowKit

section
variable {w : World} {B p : Nat} {D : Dsk} {F : Nat → Prop}

theorem DiskAt.write (h : DiskAt w B p D F) (hlim : D.l.length + 1 ≤ 1048576) (n : Int) (a : Option Addr) (b : List UInt8) (m cap : Nat) (hm' : b.length = m) (hb : BytesAt w a b) (hm : b.length ≤ 140737488355328) :
    Calls Try.prog 40 #[.pointer (some ⟨p, 0, none⟩), .int .i64 n, .slice a m cap] w fun e w' => e = .returned (.int .i64 (D.why n b)) ∧ Turned w B p F (D.write n b) w' := by
  subst hm'
  obtain ⟨vs, vn, vl, h, rfl⟩ := h
  exact write_any h hlim n a b cap hb hm
theorem DiskAt.sync (h : DiskAt w B p D F) : Calls Try.prog 43 #[.pointer (some ⟨p, 0, none⟩)] w fun e w' => e = .returned (.int .i64 D.whySync) ∧ Turned w B p F D.sync w' := by
  obtain ⟨vs, vn, vl, h, rfl⟩ := h
  exact sync_any h
theorem DiskAt.fail (h : DiskAt w B p D F) : Calls Try.prog 42 #[.pointer (some ⟨p, 0, none⟩)] w fun e w' => e = .returned (.int .i64 0) ∧ Turned w B p F { D with bad := true } w' := by
  obtain ⟨vs, vn, vl, h, rfl⟩ := h
  exact fail_any h
theorem DiskAt.fullTo (h : DiskAt w B p D F) (b : Bool) : Calls Try.prog 41 #[.pointer (some ⟨p, 0, none⟩), .bool b] w fun e w' => e = .returned (.int .i64 0) ∧ Turned w B p F { D with full := b } w' := by
  obtain ⟨vs, vn, vl, h, rfl⟩ := h
  exact full_any h b
theorem DiskAt.crash (h : DiskAt w B p D F) (a : Option Addr) (ks : List Int) (m cap : Nat) (hm' : ks.length = m) (hk : IntsAt w a ks) (hkf : ∀ x, a = some x → ks ≠ [] → ¬ F x.block) (hm : ks.length ≤ 140737488355328) :
    Calls Try.prog 33 #[.pointer (some ⟨p, 0, none⟩), .slice a m cap] w fun e w' => e = .returned (.int .i64 0) ∧ Turned w B p F (D.crash ks) w' := by
  subst hm'
  obtain ⟨vs, vn, vl, h, rfl⟩ := h
  exact crash_any h a ks cap hk hkf hm
theorem DiskAt.read (h : DiskAt w B p D F) (n : Int) (C : Nat) (hC : C ≤ w.heap.size) : Calls Try.prog 37 #[.pointer (some ⟨p, 0, none⟩), .int .i64 n] w fun e w' =>
    ∃ v, e = .returned (.tuple #[v, .int .i64 (D.wrong n)]) ∧ OwnB w' C v (if D.wrong n = 0 then sector D.now n.toNat else []) ∧ Mod (fun _ => False) w w' ∧ (∀ k, v.ownBlock = some k → w.heap.size ≤ k) := by
  obtain ⟨vs, vn, vl, h, rfl⟩ := h
  exact read_any h n C hC
theorem DiskAt.image (h : DiskAt w B p D F) (C : Nat) (hC : C ≤ w.heap.size) : Calls Try.prog 34 #[.pointer (some ⟨p, 0, none⟩)] w fun e w' =>
    ∃ v, e = .returned v ∧ OwnB w' C v D.safe ∧ Mod (fun _ => False) w w' ∧ (∀ k, v.ownBlock = some k → w.heap.size ≤ k) := by
  obtain ⟨vs, vn, vl, h, rfl⟩ := h
  exact image_any h C hC
theorem DiskAt.size (h : DiskAt w B p D F) : Calls Try.prog 52 #[.pointer (some ⟨p, 0, none⟩)] w fun e w' => e = .returned (.int .i64 (D.N : Int)) ∧ w = w' := by
  obtain ⟨vs, vn, vl, h, rfl⟩ := h
  exact size_any h
theorem DiskAt.unsynced (h : DiskAt w B p D F) : Calls Try.prog 39 #[.pointer (some ⟨p, 0, none⟩)] w fun e w' => e = .returned (.int .i64 (D.l.length : Int)) ∧ w = w' := by
  obtain ⟨vs, vn, vl, h, rfl⟩ := h
  exact unsynced_any h
theorem DiskAt.dead (h : DiskAt w B p D F) : Calls Try.prog 38 #[.pointer (some ⟨p, 0, none⟩)] w fun e w' => e = .returned (.bool D.gone) ∧ w = w' := by
  obtain ⟨vs, vn, vl, h, rfl⟩ := h
  exact dead_any h
theorem DiskAt.wf (h : DiskAt w B p D F) : D.wf := by
  obtain ⟨vs, vn, vl, h, rfl⟩ := h
  exact h.wf
end

/-- a disk, and all below the mark as it was in w0 -/
def Live (w0 : World) (B p : Nat) (D : Dsk) (w : World) : Prop := Below B w0 w ∧ B ≤ w.heap.size ∧ ∃ F, DiskAt w B p D F

theorem Live.turned {w0 w w' : World} {B p : Nat} {D D' : Dsk} {F : Nat → Prop} (hb : Below B w0 w) (hB : B ≤ w.heap.size) (h : DiskAt w B p D F) (ht : Turned w B p F D' w') : Live w0 B p D' w' :=
  ⟨hb.trans (ht.1.below (fun k hk => (h.lt k hk).1) hB), Nat.le_trans hB ht.1.size, by obtain ⟨-, F', h', -⟩ := ht; exact ⟨F', h'⟩⟩
theorem Live.mod {w0 w w' : World} {B p : Nat} {D : Dsk} (h : Live w0 B p D w) (hm : Mod (fun _ => False) w w') : Live w0 B p D w' := by
  obtain ⟨hb, hB, F, hd⟩ := h
  exact ⟨hb.trans (hm.below (fun _ e => e.elim) hB), Nat.le_trans hB hm.size, F, hd.mod hm (fun _ _ => id)⟩

/-- the fixed disk -/
def K0 : Dsk := Dsk.of (List.replicate (2 * 256) 0)
def K1 : Dsk := (K0.write 0 [97]).sync
def K2 : Dsk := ((K1.write 0 [98, 99]).write 1 [100]).crash [1, 0]

theorem k0_why : K0.why 0 [97] = 0 ∧ (K0.l.length + 1 ≤ 1048576) := by decide +kernel
theorem k2_facts : K2.wrong 0 = 0 ∧ K2.wrong 1 = 0 ∧ (K1.l.length + 1 ≤ 1048576) ∧ ((K1.write 0 [98, 99]).l.length + 1 ≤ 1048576) ∧
    (sector K2.now 0).length = 256 ∧ (sector K2.now 0).getD 0 0 = 98 ∧ (sector K2.now 0).getD 1 0 = 0 ∧ (sector K2.now 1).length = 256 ∧ (sector K2.now 1).getD 0 0 = 0 := by decide +kernel

theorem intsAt_new (w : World) (l : List Int) {C : Array Value} {fz : Nat × Nat} (hC : C = (l.map fun n => Value.int .i64 n).toArray := by rfl) : IntsAt (w.alloc (.cells C 3 fz)) (some ⟨w.heap.size, 0, none⟩) l := by
  subst hC
  intro _
  refine ⟨_, _, rfl, fun j hj => ?_⟩
  rw [cell_of_row _ w.heap.size (0 + j) _ 3 fz (heap_alloc_new w _)]
  simp [hj]

set_option maxRecDepth 100000 in
theorem known3_any (w : World) : Calls Try.prog 35 #[] w fun e w' => e = .returned (.bool true) ∧ Below w.heap.size w w' := by
  have hn := new_ok (w := w) (B := w.heap.size) (Nat.le_refl _) 2 (by decide) (by decide)
  obtain ⟨f1, f2, f3, f4, f5, f6, f7, f8, f9⟩ := k2_facts
  have kc := fun w C n c => Lib.run_convert_bytes_const (P := Try.prog) w 22 5 C n c Try.underlying22 Try.underlying5
  go_enter Try.func35, Try.ntmps35
  go_wp2_with fail
  refine hn.mono ?_
  rintro e w1 ⟨v, rfl, p, F, rfl, d1, m1, n1⟩
  have l1 : Live w w.heap.size p K0 w1 := ⟨m1.below (fun _ e => e.elim) (Nat.le_refl _), m1.size, F, d1⟩
  clear d1 m1 n1 F
  go_wp2_with fail
  obtain ⟨hb, hB, F, hd⟩ := l1.mod (Mod.alloc _ _ (.cells #[.int .u8 97] 5 (1, 2)))
  refine (hd.write k0_why.2 0 _ [97] 1 1 rfl (by exact bytesAt_new' rfl rfl) (by decide)).mono ?_
  rintro e w2 ⟨rfl, ht⟩
  have l2 := Live.turned hb hB hd ht
  clear hb hB hd ht F l1
  go_wp2_with fail
  obtain ⟨hb, hB, F, hd⟩ := l2
  refine hd.sync.mono ?_
  rintro e w3 ⟨rfl, ht⟩
  have l3 : Live w w.heap.size p K1 w3 := Live.turned hb hB hd ht
  clear hb hB hd ht F
  go_wp2_with fail
  obtain ⟨hb, hB, F, hd⟩ := l3.mod (Mod.alloc _ _ (.cells #[.int .u8 98, .int .u8 99] 5 (2, 3)))
  refine (hd.write f3 0 _ [98, 99] 2 2 rfl (by exact bytesAt_new' rfl rfl) (by decide)).mono ?_
  rintro e w4 ⟨rfl, ht⟩
  have l4 := Live.turned hb hB hd ht
  clear hb hB hd ht F l3
  go_wp2_with fail
  obtain ⟨hb, hB, F, hd⟩ := l4.mod (Mod.alloc _ _ (.cells #[.int .u8 100] 5 (1, 2)))
  refine (hd.write f4 1 _ [100] 1 1 rfl (by exact bytesAt_new' rfl rfl) (by decide)).mono ?_
  rintro e w5 ⟨rfl, ht⟩
  have l5 := Live.turned hb hB hd ht
  clear hb hB hd ht F l4
  go_wp2_with fail
  have l5' := l5.mod (Mod.alloc _ _ (.cells #[.int .i64 1, .int .i64 0] 3))
  obtain ⟨-, -, F, hd0⟩ := l5
  have hlt := hd0.lt
  have hd := hd0.mod (Mod.alloc (fun _ => False) w5 (.cells #[.int .i64 1, .int .i64 0] 3)) (fun _ _ => id)
  obtain ⟨hb, hB, -⟩ := l5'
  refine (hd.crash _ [1, 0] 2 2 rfl (by exact intsAt_new _ _) (fun x hx _ => ?_) (by decide)).mono ?_
  · cases hx
    intro e
    have := (hlt _ e).2
    simp at this
  rintro e w6 ⟨rfl, ht⟩
  have l6 : Live w w.heap.size p K2 w6 := Live.turned hb hB hd ht
  clear hb hB hd ht hd0 hlt F
  go_wp2_with fail
  obtain ⟨hb, hB, F, hd⟩ := l6
  refine (hd.read 0 w.heap.size hB).mono ?_
  rintro e w7 ⟨va, rfl, o7, m7, -⟩
  have hd7 := hd.mod m7 (fun _ _ => id)
  go_wp2_with fail
  refine (hd7.read 1 w.heap.size (Nat.le_trans hB m7.size)).mono ?_
  rintro e w8 ⟨vb, rfl, o8, m8, -⟩
  have o7 := o7.mod m8 (fun _ _ => id)
  rw [if_pos f1] at o7
  rw [if_pos f2] at o8
  have hbel : Below w.heap.size w w8 := hb.trans ((m7.trans' m8).below (fun _ e => e.elim) hB)
  have o7 : OwnB w8 w.heap.size va (sector K2.now 0) := o7
  have o8 : OwnB w8 w.heap.size vb (sector K2.now 1) := o8
  rw [f2]
  generalize sector K2.now 0 = la at *
  generalize sector K2.now 1 = lb at *
  obtain ⟨ga, ca, cura, rfl, -, -, hca, -, -, -⟩ := o7.row (by intro e; rw [e] at f5; simp at f5)
  obtain ⟨gb, cb, curb, rfl, -, -, hcb, -, -, -⟩ := o8.row (by intro e; rw [e] at f8; simp at f8)
  have x0 := (o7.cellAt 0 (by omega)).1
  have x1 := (o7.cellAt 1 (by omega)).1
  have y0 := (o8.cellAt 0 (by omega)).1
  rw [show la[0]'(by omega) = 98 by rw [← f6]; simp [f5]] at x0
  rw [show la[1]'(by omega) = 0 by rw [← f7]; simp [f5]] at x1
  rw [show lb[0]'(by omega) = 0 by rw [← f9]; simp [f8]] at y0
  go_wp2
  go_ret
  exact ⟨rfl, hbel⟩
end Go.Proofs.Ytdinnkacilgmmaa
