/- What RowPagerPlays needs, part 12. -/
import Derived.Test.YtdinnkacilgmmaaPlK
namespace Go.Proofs.Ytdinnkacilgmmaa
open Go.RowKit

section
variable {w0 w : World} {x d p r q size : Nat} {P : Pgr} {D : Dsk}
theorem Apart.rflag {B : Nat} {Ts : List (Thg B)} (h : Apart w0 B Ts w) (i : Nat) (hi : Ts[i]? = some (RDiskT B r D)) (n : Nat) (v : Value) (D' : Dsk) (hs : D'.safe = D.safe) (hl : D'.l = D.l)
    (hc : ∀ vs vl, #[vs, vl, .bool D.bad, .bool D.full, .bool D.gone].setIfInBounds n v = #[vs, vl, .bool D'.bad, .bool D'.full, .bool D'.gone]) : Apart w0 B (Ts.set i (RDiskT B r D')) (w.setCell ⟨r, n, none⟩ v) := by
  obtain ⟨F, ⟨vs, vl, xs, ys, hv, rfl⟩, hup⟩ := h.turn i hi
  have hf := hv.flag n v D' hs hl (hc vs vl)
  exact hup _ _ ⟨hf.2, _, ⟨_, _, _, _, hf.1, rfl⟩, fun _ hk => .inl hk⟩
theorem Apart.rcells {B : Nat} {Ts : List (Thg B)} (h : Apart w0 B Ts w) (i : Nat) (hi : Ts[i]? = some (RDiskT B r D)) : w.cell? ⟨r, 2, none⟩ = some (.bool D.bad) ∧ w.cell? ⟨r, 3, none⟩ = some (.bool D.full) ∧ w.frozen? ⟨r, 2, none⟩ = false ∧ w.frozen? ⟨r, 3, none⟩ = false := by
  obtain ⟨F, vs, vl, xs, ys, hv, -⟩ := h.rdisk i hi
  exact ⟨hv.cell.2.2.1, hv.cell.2.2.2.1, thaw_of (i := 2) hv.at_, thaw_of (i := 3) hv.at_⟩
theorem Apart.rcrash {B : Nat} {Ts : List (Thg B)} (h : Apart w0 B Ts w) (i : Nat) (hi : Ts[i]? = some (RDiskT B r D)) (hlim : D.l.length ≤ 1048576) (a : Option Addr) (ks : List Int) (cap : Nat) (hk : IntsAt w a ks) (hkB : ∀ x, a = some x → ks ≠ [] → x.block < B) (hm : ks.length ≤ 140737488355328) :
    Calls Try.prog 92 #[.pointer (some ⟨r, 0, none⟩), .slice a ks.length cap] w fun e w' => e = .returned (.tuple #[]) ∧ Apart w0 B (Ts.set i (RDiskT B r (D.crash ks))) w' := by
  obtain ⟨F, hd, hup⟩ := h.turn i hi
  have hd : RDiskAt w B r D F := hd
  exact (hd.crash hlim a ks cap hk (fun x hx hne e => by have := (hd.lt _ e).1; have := hkB x hx hne; omega) hm).mono fun e w' ⟨he, ht⟩ => ⟨he, hup _ _ ht⟩

set_option maxHeartbeats 4000000 in
set_option maxRecDepth 100000 in
theorem step5_fail (h : Apart w0 w0.heap.size (bothTs w0.heap.size x d p r q size P D) w) (_hwf : P.wf D) (_hlim : D.l.length + 1 ≤ 1048576) (kd n m : Int) (b : List UInt8) (l : List Int) (ab al : Option Addr) (cb cl : Nat) (hb : BytesAt w0 ab b) (_hab : ab = none → cb = 0) (hl : IntsAt w0 al l) (_hbm : b.length ≤ 140737488351232) (_hlm : l.length ≤ 140737488351232) (hbB : ∀ x, ab = some x → b ≠ [] → x.block < w0.heap.size) (hlB : ∀ x, al = some x → l ≠ [] → x.block < w0.heap.size) (hk : kd = 7) :
    Calls Try.prog 80 #[.pointer (some ⟨x, 0, none⟩), .agg #[.int .i64 kd, .int .i64 n, .int .i64 m, .slice ab b.length cb, .slice al l.length cl]] w fun e w' => Stepped w0 w0.heap.size x d r size (stepP P D size ⟨kd, n, m, b, l⟩).1 (stepP P D size ⟨kd, n, m, b, l⟩).2 e w' := by
  have hst : stepP P D size ⟨kd, n, m, b, l⟩ = (P, { D with bad := true }) := by
    unfold stepP
    simp [hk]
  obtain ⟨W1, hW1⟩ : ∃ W1, W1 = w.alloc (.cells #[.int .i64 kd, .int .i64 n, .int .i64 m, .slice ab b.length cb, .slice al l.length cl] 102) := ⟨_, rfl⟩
  obtain ⟨k, hk2⟩ : ∃ k, k = w.heap.size := ⟨_, rfl⟩
  have h1 : Apart w0 w0.heap.size (bothTs w0.heap.size x d p r q size P D ++ [BlkT w0.heap.size k (opWO ⟨kd, n, m, b, l⟩ ab cb al cl)]) W1 := by rw [hW1, hk2]; exact h.lay _
  have XC : ∀ (Ts : List (Thg w0.heap.size)) w', Apart w0 w0.heap.size Ts w' → Ts[2]? = some (BlkT w0.heap.size x (xObj d r (.pointer (some ⟨p, 0, none⟩)) (.pointer (some ⟨q, 0, none⟩)) (size : Int))) → Ts[5]? = some (BlkT w0.heap.size k (opWO ⟨kd, n, m, b, l⟩ ab cb al cl)) → _ := fun Ts w' h h2 h5 => h.cells5 h2 h5
  dsimp only at XC
  have HXC := Lib.hid XC
  have HW1 := Lib.hid hW1
  have HK2 := Lib.hid hk2
  have HH := Lib.hid h1
  have BY : ∀ (Ts : List (Thg w0.heap.size)) w', Apart w0 w0.heap.size Ts w' → BytesAt w' ab b := fun Ts w' h => hb.below h.bel hbB
  have IN : ∀ (Ts : List (Thg w0.heap.size)) w', Apart w0 w0.heap.size Ts w' → IntsAt w' al l := fun Ts w' h => hl.mod (Mod.of_below h.bel) (fun x hx hne e => by have := hlB x hx hne; omega)
  have HBY := Lib.hid BY
  have HIN := Lib.hid IN
  have HLB := Lib.hid hlB
  have HBB := Lib.hid hbB
  have y0 := (XC _ _ h1 rfl rfl)
  rw [hst]
  clear hW1 hk2 h1 XC BY IN hb hl hlB hbB hst
  obtain ⟨y0, y1, y2, y3, y4, y5, y6, y7, y8⟩ := y0
  subst hk
  have hs := HH.out.rflag 1 rfl 2 (.bool true) { D with bad := true } rfl rfl (fun _ _ => rfl)
  obtain ⟨z2, z3, t2, t3⟩ := HH.out.rcells 1 rfl
  obtain ⟨v0, -⟩ := HXC.out _ _ hs rfl rfl
  have KF := hs.fail 0 rfl
  replace KF := Lib.hid KF
  clear y1 y3 y4 y5 y6 y7 y8 z3 t3 hs
  go_enter Try.func80, Try.ntmps80
  go_upto_region 20 with fail
  rw [← HW1.out]
  go_wp2_with fail
  refine KF.out.mono ?_
  rintro e w2 ⟨rfl, h2⟩
  go_wp2
  go_ret
  exact ⟨rfl, p, q, h2.take 5⟩

set_option maxHeartbeats 4000000 in
set_option maxRecDepth 100000 in
theorem step5_full (h : Apart w0 w0.heap.size (bothTs w0.heap.size x d p r q size P D) w) (_hwf : P.wf D) (_hlim : D.l.length + 1 ≤ 1048576) (kd n m : Int) (b : List UInt8) (l : List Int) (ab al : Option Addr) (cb cl : Nat) (hb : BytesAt w0 ab b) (_hab : ab = none → cb = 0) (hl : IntsAt w0 al l) (_hbm : b.length ≤ 140737488351232) (_hlm : l.length ≤ 140737488351232) (hbB : ∀ x, ab = some x → b ≠ [] → x.block < w0.heap.size) (hlB : ∀ x, al = some x → l ≠ [] → x.block < w0.heap.size) (hk : kd = 8) :
    Calls Try.prog 80 #[.pointer (some ⟨x, 0, none⟩), .agg #[.int .i64 kd, .int .i64 n, .int .i64 m, .slice ab b.length cb, .slice al l.length cl]] w fun e w' => Stepped w0 w0.heap.size x d r size (stepP P D size ⟨kd, n, m, b, l⟩).1 (stepP P D size ⟨kd, n, m, b, l⟩).2 e w' := by
  have hst : stepP P D size ⟨kd, n, m, b, l⟩ = (P, { D with full := n.tmod 2 != 0 }) := by
    unfold stepP
    simp [hk]
  obtain ⟨W1, hW1⟩ : ∃ W1, W1 = w.alloc (.cells #[.int .i64 kd, .int .i64 n, .int .i64 m, .slice ab b.length cb, .slice al l.length cl] 102) := ⟨_, rfl⟩
  obtain ⟨k, hk2⟩ : ∃ k, k = w.heap.size := ⟨_, rfl⟩
  have h1 : Apart w0 w0.heap.size (bothTs w0.heap.size x d p r q size P D ++ [BlkT w0.heap.size k (opWO ⟨kd, n, m, b, l⟩ ab cb al cl)]) W1 := by rw [hW1, hk2]; exact h.lay _
  have XC : ∀ (Ts : List (Thg w0.heap.size)) w', Apart w0 w0.heap.size Ts w' → Ts[2]? = some (BlkT w0.heap.size x (xObj d r (.pointer (some ⟨p, 0, none⟩)) (.pointer (some ⟨q, 0, none⟩)) (size : Int))) → Ts[5]? = some (BlkT w0.heap.size k (opWO ⟨kd, n, m, b, l⟩ ab cb al cl)) → _ := fun Ts w' h h2 h5 => h.cells5 h2 h5
  dsimp only at XC
  have HXC := Lib.hid XC
  have HW1 := Lib.hid hW1
  have HK2 := Lib.hid hk2
  have HH := Lib.hid h1
  have BY : ∀ (Ts : List (Thg w0.heap.size)) w', Apart w0 w0.heap.size Ts w' → BytesAt w' ab b := fun Ts w' h => hb.below h.bel hbB
  have IN : ∀ (Ts : List (Thg w0.heap.size)) w', Apart w0 w0.heap.size Ts w' → IntsAt w' al l := fun Ts w' h => hl.mod (Mod.of_below h.bel) (fun x hx hne e => by have := hlB x hx hne; omega)
  have HBY := Lib.hid BY
  have HIN := Lib.hid IN
  have HLB := Lib.hid hlB
  have HBB := Lib.hid hbB
  have y0 := (XC _ _ h1 rfl rfl)
  rw [hst]
  clear hW1 hk2 h1 XC BY IN hb hl hlB hbB hst
  obtain ⟨y0, y1, y2, y3, y4, y5, y6, y7, y8⟩ := y0
  subst hk
  have HS := Lib.hid ((HH.out.rflag 1 rfl 3 (.bool (n.tmod 2 != 0)) { D with full := n.tmod 2 != 0 } rfl rfl (fun _ _ => rfl)).still (Mod.drew _ _))
  have KF : ∀ (Ts : List (Thg w0.heap.size)) w', Apart w0 w0.heap.size Ts w' → Ts[0]? = some (DiskT w0.heap.size d D) → _ := fun Ts w' h h0 => h.fullTo 0 h0 (n.tmod 2 != 0)
  replace KF := Lib.hid KF
  obtain ⟨z2, z3, t2, t3⟩ := HH.out.rcells 1 rfl
  clear z2 t2
  go_enter Try.func80, Try.ntmps80
  go_upto_region 23 with fail
  rw [← HW1.out, ← HK2.out]
  clear y0 y1 y2 y3 y4 y5 y6 y7 y8
  refine wp_region_held_drew (S := fun w' => w'.cell? ⟨x, 0, none⟩ = some (.pointer (some ⟨d, 0, none⟩)) ∧ w'.cell? ⟨x, 1, none⟩ = some (.pointer (some ⟨p, 0, none⟩)) ∧ w'.cell? ⟨x, 2, none⟩ = some (.pointer (some ⟨r, 0, none⟩)) ∧ w'.cell? ⟨x, 3, none⟩ = some (.pointer (some ⟨q, 0, none⟩)) ∧ w'.cell? ⟨x, 4, none⟩ = some (.int .i64 (size : Int)) ∧ w'.cell? ⟨k, 1, none⟩ = some (.int .i64 n) ∧ w'.cell? ⟨k, 2, none⟩ = some (.int .i64 m) ∧ w'.cell? ⟨k, 3, none⟩ = some (.slice ab b.length cb) ∧ w'.cell? ⟨k, 4, none⟩ = some (.slice al l.length cl)) (by kernel_rfl) (HXC.out _ _ (HH.out.still (Mod.drew _ _)) rfl rfl) (fun hHeld => ?_)
  refine wpAnyH_take (i := 0) (oi := ⟨some 138, .move (.tmp 0), 115, "law.go:110", #[], none⟩) (v := ?_) rfl (by kernel_rfl) (by kernel_rfl) (by kernel_rfl) (fun _ _ _ h => h) (Or.inl ⟨by rfl, ?_⟩) (by assumption) ?_
  rotate_left
  · (intro w hSw; (try dsimp only at hSw); go_simp; try with_reducible rfl)
  simp only [Act.put, List.setIfInBounds_toArray, List.set_cons_zero, List.set_cons_succ]
  refine wpAnyH_take (i := 1) (oi := ⟨some 139, .nilCheck (.tmp 138), 0, "law.go:110", #[⟨0, .data⟩], none⟩) (v := ?_) rfl (by kernel_rfl) (by kernel_rfl) (by kernel_rfl) (fun _ _ _ h => h) (Or.inl ⟨by rfl, ?_⟩) (by assumption) ?_
  rotate_left
  · (intro w hSw; (try dsimp only at hSw); go_simp; try with_reducible rfl)
  simp only [Act.put, List.setIfInBounds_toArray, List.set_cons_zero, List.set_cons_succ]
  refine wpAnyH_take (i := 2) (oi := ⟨some 140, .fieldAddr 118 (.tmp 139) 2, 0, "law.go:110", #[⟨1, .data⟩], none⟩) (v := ?_) rfl (by kernel_rfl) (by kernel_rfl) (by kernel_rfl) (fun _ _ _ h => h) (Or.inl ⟨by rfl, ?_⟩) (by assumption) ?_
  rotate_left
  · (intro w hSw; (try dsimp only at hSw); go_simp; try with_reducible rfl)
  simp only [Act.put, List.setIfInBounds_toArray, List.set_cons_zero, List.set_cons_succ]
  refine wpAnyH_take (i := 3) (oi := ⟨some 141, .load 60 (.tmp 140), 60, "law.go:110", #[⟨2, .data⟩], none⟩) (v := ?_) rfl (by kernel_rfl) (by kernel_rfl) (by kernel_rfl) (fun _ _ _ h => h) (Or.inl ⟨by rfl, ?_⟩) (by assumption) ?_
  rotate_left
  · (intro w hSw; (try dsimp only at hSw); go_simp; try with_reducible rfl)
  simp only [Act.put, List.setIfInBounds_toArray, List.set_cons_zero, List.set_cons_succ]
  refine wpAnyH_take (i := 4) (oi := ⟨some 142, .fieldAddr 102 (.tmp 3) 1, 0, "law.go:110", #[], none⟩) (v := ?_) rfl (by kernel_rfl) (by kernel_rfl) (by kernel_rfl) (fun _ _ _ h => h) (Or.inl ⟨by rfl, ?_⟩) (by assumption) ?_
  rotate_left
  · (intro w hSw; (try dsimp only at hSw); go_simp; try with_reducible rfl)
  simp only [Act.put, List.setIfInBounds_toArray, List.set_cons_zero, List.set_cons_succ]
  refine wpAnyH_take (i := 5) (oi := ⟨some 143, .load 3 (.tmp 142), 3, "law.go:110", #[⟨4, .data⟩], none⟩) (v := ?_) rfl (by kernel_rfl) (by kernel_rfl) (by kernel_rfl) (fun _ _ _ h => h) (Or.inl ⟨by rfl, ?_⟩) (by assumption) ?_
  rotate_left
  · (intro w hSw; (try dsimp only at hSw); go_simp; try with_reducible rfl)
  simp only [Act.put, List.setIfInBounds_toArray, List.set_cons_zero, List.set_cons_succ]
  refine wpAnyH_take (i := 6) (oi := ⟨some 144, .binOp .rem 3 (.tmp 143) (.const (.int .i64 2)) 3, 3, "law.go:110", #[⟨5, .data⟩], none⟩) (v := ?_) rfl (by kernel_rfl) (by kernel_rfl) (by kernel_rfl) (fun _ _ _ h => h) (Or.inl ⟨by rfl, ?_⟩) (by assumption) ?_
  rotate_left
  · (intro w hSw; (try dsimp only at hSw); go_simp; try with_reducible rfl)
  simp only [Act.put, List.setIfInBounds_toArray, List.set_cons_zero, List.set_cons_succ]
  refine wpAnyH_take (i := 7) (oi := ⟨some 145, .binOp .neq 3 (.tmp 144) (.const (.int .i64 0)) 3, 4, "law.go:110", #[⟨6, .data⟩], none⟩) (v := ?_) rfl (by kernel_rfl) (by kernel_rfl) (by kernel_rfl) (fun _ _ _ h => h) (Or.inl ⟨by rfl, ?_⟩) (by assumption) ?_
  rotate_left
  · (intro w hSw; (try dsimp only at hSw); go_simp; try with_reducible rfl)
  simp only [Act.put, List.setIfInBounds_toArray, List.set_cons_zero, List.set_cons_succ]
  refine wpAnyH_take (i := 8) (oi := ⟨some 146, .nilCheck (.tmp 141), 0, "law.go:110", #[⟨3, .data⟩, ⟨0, .phase⟩, ⟨1, .phase⟩, ⟨2, .phase⟩, ⟨3, .phase⟩, ⟨4, .phase⟩, ⟨5, .phase⟩, ⟨6, .phase⟩, ⟨7, .phase⟩], none⟩) (v := ?_) rfl (by kernel_rfl) (by kernel_rfl) (by kernel_rfl) (fun _ _ _ h => h) (Or.inl ⟨by rfl, ?_⟩) (by assumption) ?_
  rotate_left
  · (intro w hSw; (try dsimp only at hSw); go_simp; try with_reducible rfl)
  simp only [Act.put, List.setIfInBounds_toArray, List.set_cons_zero, List.set_cons_succ]
  refine wpAnyH_take (i := 9) (oi := ⟨some 147, .fieldAddr 69 (.tmp 146) 3, 0, "law.go:110", #[⟨8, .data⟩, ⟨0, .phase⟩, ⟨1, .phase⟩, ⟨2, .phase⟩, ⟨3, .phase⟩, ⟨4, .phase⟩, ⟨5, .phase⟩, ⟨6, .phase⟩, ⟨7, .phase⟩], none⟩) (v := ?_) rfl (by kernel_rfl) (by kernel_rfl) (by kernel_rfl) (fun _ _ _ h => h) (Or.inl ⟨by rfl, ?_⟩) (by assumption) ?_
  rotate_left
  · (intro w hSw; (try dsimp only at hSw); go_simp; try with_reducible rfl)
  simp only [Act.put, List.setIfInBounds_toArray, List.set_cons_zero, List.set_cons_succ]
  refine wpAnyH_ready (rs := [10]) (by kernel_rfl) (by simp) ?_
  refine AllReadyH.cons (o := ⟨none, .store 4 (.tmp 147) (.tmp 145), 0, "law.go:110", #[⟨9, .data⟩, ⟨7, .data⟩, ⟨0, .phase⟩, ⟨1, .phase⟩, ⟨2, .phase⟩, ⟨3, .phase⟩, ⟨4, .phase⟩, ⟨5, .phase⟩, ⟨6, .phase⟩, ⟨7, .phase⟩], none⟩) rfl (fun K hK => ?_) AllReadyH.nil
  go_simp
  try simp only []
  refine hK.out _ _ (HXC.out _ _ HS.out rfl rfl) (fun _ => ?_)
  clear hK K
  try simp only [Act.put, List.setIfInBounds_toArray, List.set_cons_zero, List.set_cons_succ]
  refine wpAnyH_done (by kernel_rfl) ?_ _
  have HD2 := Lib.hid (HS.out.still (Mod.drew _ _))
  clear HS z3 t3
  go_upto_region 24 with fail
  refine wp_region_held_drew (S := fun w' => w'.cell? ⟨x, 0, none⟩ = some (.pointer (some ⟨d, 0, none⟩)) ∧ w'.cell? ⟨x, 1, none⟩ = some (.pointer (some ⟨p, 0, none⟩)) ∧ w'.cell? ⟨x, 2, none⟩ = some (.pointer (some ⟨r, 0, none⟩)) ∧ w'.cell? ⟨x, 3, none⟩ = some (.pointer (some ⟨q, 0, none⟩)) ∧ w'.cell? ⟨x, 4, none⟩ = some (.int .i64 (size : Int)) ∧ w'.cell? ⟨k, 1, none⟩ = some (.int .i64 n) ∧ w'.cell? ⟨k, 2, none⟩ = some (.int .i64 m) ∧ w'.cell? ⟨k, 3, none⟩ = some (.slice ab b.length cb) ∧ w'.cell? ⟨k, 4, none⟩ = some (.slice al l.length cl)) (by kernel_rfl) (HXC.out _ _ HD2.out rfl rfl) (fun hHeld => ?_)
  refine wpAnyH_take (i := 0) (oi := ⟨some 148, .move (.tmp 0), 115, "law.go:111", #[], none⟩) (v := ?_) rfl (by kernel_rfl) (by kernel_rfl) (by kernel_rfl) (fun _ _ _ h => h) (Or.inl ⟨by rfl, ?_⟩) (by assumption) ?_
  rotate_left
  · (intro w hSw; (try dsimp only at hSw); go_simp; try with_reducible rfl)
  simp only [Act.put, List.setIfInBounds_toArray, List.set_cons_zero, List.set_cons_succ]
  refine wpAnyH_take (i := 1) (oi := ⟨some 149, .nilCheck (.tmp 148), 0, "law.go:111", #[⟨0, .data⟩], none⟩) (v := ?_) rfl (by kernel_rfl) (by kernel_rfl) (by kernel_rfl) (fun _ _ _ h => h) (Or.inl ⟨by rfl, ?_⟩) (by assumption) ?_
  rotate_left
  · (intro w hSw; (try dsimp only at hSw); go_simp; try with_reducible rfl)
  simp only [Act.put, List.setIfInBounds_toArray, List.set_cons_zero, List.set_cons_succ]
  refine wpAnyH_take (i := 2) (oi := ⟨some 150, .fieldAddr 118 (.tmp 149) 0, 0, "law.go:111", #[⟨1, .data⟩], none⟩) (v := ?_) rfl (by kernel_rfl) (by kernel_rfl) (by kernel_rfl) (fun _ _ _ h => h) (Or.inl ⟨by rfl, ?_⟩) (by assumption) ?_
  rotate_left
  · (intro w hSw; (try dsimp only at hSw); go_simp; try with_reducible rfl)
  simp only [Act.put, List.setIfInBounds_toArray, List.set_cons_zero, List.set_cons_succ]
  refine wpAnyH_take (i := 3) (oi := ⟨some 151, .load 40 (.tmp 150), 40, "law.go:111", #[⟨2, .data⟩], none⟩) (v := ?_) rfl (by kernel_rfl) (by kernel_rfl) (by kernel_rfl) (fun _ _ _ h => h) (Or.inl ⟨by rfl, ?_⟩) (by assumption) ?_
  rotate_left
  · (intro w hSw; (try dsimp only at hSw); go_simp; try with_reducible rfl)
  simp only [Act.put, List.setIfInBounds_toArray, List.set_cons_zero, List.set_cons_succ]
  refine wpAnyH_take (i := 4) (oi := ⟨some 152, .fieldAddr 102 (.tmp 3) 1, 0, "law.go:111", #[], none⟩) (v := ?_) rfl (by kernel_rfl) (by kernel_rfl) (by kernel_rfl) (fun _ _ _ h => h) (Or.inl ⟨by rfl, ?_⟩) (by assumption) ?_
  rotate_left
  · (intro w hSw; (try dsimp only at hSw); go_simp; try with_reducible rfl)
  simp only [Act.put, List.setIfInBounds_toArray, List.set_cons_zero, List.set_cons_succ]
  refine wpAnyH_take (i := 5) (oi := ⟨some 153, .load 3 (.tmp 152), 3, "law.go:111", #[⟨4, .data⟩], none⟩) (v := ?_) rfl (by kernel_rfl) (by kernel_rfl) (by kernel_rfl) (fun _ _ _ h => h) (Or.inl ⟨by rfl, ?_⟩) (by assumption) ?_
  rotate_left
  · (intro w hSw; (try dsimp only at hSw); go_simp; try with_reducible rfl)
  simp only [Act.put, List.setIfInBounds_toArray, List.set_cons_zero, List.set_cons_succ]
  refine wpAnyH_take (i := 6) (oi := ⟨some 154, .binOp .rem 3 (.tmp 153) (.const (.int .i64 2)) 3, 3, "law.go:111", #[⟨5, .data⟩], none⟩) (v := ?_) rfl (by kernel_rfl) (by kernel_rfl) (by kernel_rfl) (fun _ _ _ h => h) (Or.inl ⟨by rfl, ?_⟩) (by assumption) ?_
  rotate_left
  · (intro w hSw; (try dsimp only at hSw); go_simp; try with_reducible rfl)
  simp only [Act.put, List.setIfInBounds_toArray, List.set_cons_zero, List.set_cons_succ]
  refine wpAnyH_take (i := 7) (oi := ⟨some 155, .binOp .neq 3 (.tmp 154) (.const (.int .i64 0)) 3, 4, "law.go:111", #[⟨6, .data⟩], none⟩) (v := ?_) rfl (by kernel_rfl) (by kernel_rfl) (by kernel_rfl) (fun _ _ _ h => h) (Or.inl ⟨by rfl, ?_⟩) (by assumption) ?_
  rotate_left
  · (intro w hSw; (try dsimp only at hSw); go_simp; try with_reducible rfl)
  simp only [Act.put, List.setIfInBounds_toArray, List.set_cons_zero, List.set_cons_succ]
  refine wpAnyH_ready (rs := [8]) (by kernel_rfl) (by simp) ?_
  refine AllReadyH.cons (o := ⟨some 156, .call { callee := .value (.func 41), args := #[.tmp 151, .tmp 155], argTypes := #[40, 4] }, 32, "law.go:111", #[⟨3, .data⟩, ⟨7, .data⟩], none⟩) rfl (fun K hK => ?_) AllReadyH.nil
  go_simp
  refine (KF.out _ _ HD2.out rfl).mono ?_
  rintro e wa ⟨rfl, hA⟩
  try simp only []
  refine hK.out _ _ (HXC.out _ _ hA rfl rfl) (fun _ => ?_)
  clear hK K
  try simp only [Act.put, List.setIfInBounds_toArray, List.set_cons_zero, List.set_cons_succ]
  refine wpAnyH_take (i := 9) (oi := ⟨some 157, .binOp .eql 32 (.tmp 156) (.const (.int .i64 0)) 32, 4, "law.go:111", #[⟨8, .data⟩], none⟩) (v := ?_) rfl (by kernel_rfl) (by kernel_rfl) (by kernel_rfl) (fun _ _ _ h => h) (Or.inl ⟨by rfl, ?_⟩) (by assumption) ?_
  rotate_left
  · (intro w hSw; (try dsimp only at hSw); go_simp; try with_reducible rfl)
  simp only [Act.put, List.setIfInBounds_toArray, List.set_cons_zero, List.set_cons_succ]
  refine wpAnyH_take (i := 10) (oi := ⟨some 4, .assign (.tmp 157), 4, "law.go:111", #[⟨9, .data⟩, ⟨8, .chain⟩, ⟨0, .phase⟩, ⟨1, .phase⟩, ⟨2, .phase⟩, ⟨3, .phase⟩, ⟨4, .phase⟩, ⟨5, .phase⟩, ⟨6, .phase⟩, ⟨7, .phase⟩, ⟨8, .phase⟩, ⟨9, .phase⟩], none⟩) (v := ?_) rfl (by kernel_rfl) (by kernel_rfl) (by kernel_rfl) (fun _ _ _ h => h) (Or.inl ⟨by rfl, ?_⟩) (by assumption) ?_
  rotate_left
  · (intro w hSw; (try dsimp only at hSw); go_simp; try with_reducible rfl)
  simp only [Act.put, List.setIfInBounds_toArray, List.set_cons_zero, List.set_cons_succ]
  refine wpAnyH_done (by kernel_rfl) ?_ _
  go_wp2_with fail
  go_ret
  exact ⟨rfl, p, q, hA.take 5⟩

set_option maxHeartbeats 4000000 in
set_option maxRecDepth 100000 in
theorem step5_open (h : Apart w0 w0.heap.size (bothTs w0.heap.size x d p r q size P D) w) (hwf : P.wf D) (hlim : D.l.length + 1 ≤ 1048576) (hsz : P.pages + 2 = size) (kd n m : Int) (b : List UInt8) (l : List Int) (ab al : Option Addr) (cb cl : Nat) (hb : BytesAt w0 ab b) (_hab : ab = none → cb = 0) (hl : IntsAt w0 al l) (_hbm : b.length ≤ 140737488351232) (_hlm : l.length ≤ 140737488351232) (hbB : ∀ x, ab = some x → b ≠ [] → x.block < w0.heap.size) (hlB : ∀ x, al = some x → l ≠ [] → x.block < w0.heap.size) (hk : kd = 10) :
    Calls Try.prog 80 #[.pointer (some ⟨x, 0, none⟩), .agg #[.int .i64 kd, .int .i64 n, .int .i64 m, .slice ab b.length cb, .slice al l.length cl]] w fun e w' => Stepped w0 w0.heap.size x d r size (stepP P D size ⟨kd, n, m, b, l⟩).1 (stepP P D size ⟨kd, n, m, b, l⟩).2 e w' := by
  have hst : stepP P D size ⟨kd, n, m, b, l⟩ = (Pgr.opened P.frm size D, D) := by
    unfold stepP
    simp [hk]
  obtain ⟨W1, hW1⟩ : ∃ W1, W1 = w.alloc (.cells #[.int .i64 kd, .int .i64 n, .int .i64 m, .slice ab b.length cb, .slice al l.length cl] 102) := ⟨_, rfl⟩
  obtain ⟨k, hk2⟩ : ∃ k, k = w.heap.size := ⟨_, rfl⟩
  have h1 : Apart w0 w0.heap.size (bothTs w0.heap.size x d p r q size P D ++ [BlkT w0.heap.size k (opWO ⟨kd, n, m, b, l⟩ ab cb al cl)]) W1 := by rw [hW1, hk2]; exact h.lay _
  have XC : ∀ (Ts : List (Thg w0.heap.size)) w', Apart w0 w0.heap.size Ts w' → Ts[2]? = some (BlkT w0.heap.size x (xObj d r (.pointer (some ⟨p, 0, none⟩)) (.pointer (some ⟨q, 0, none⟩)) (size : Int))) → Ts[5]? = some (BlkT w0.heap.size k (opWO ⟨kd, n, m, b, l⟩ ab cb al cl)) → _ := fun Ts w' h h2 h5 => h.cells5 h2 h5
  dsimp only at XC
  have HXC := Lib.hid XC
  have HW1 := Lib.hid hW1
  have HK2 := Lib.hid hk2
  have HH := Lib.hid h1
  have BY : ∀ (Ts : List (Thg w0.heap.size)) w', Apart w0 w0.heap.size Ts w' → BytesAt w' ab b := fun Ts w' h => hb.below h.bel hbB
  have IN : ∀ (Ts : List (Thg w0.heap.size)) w', Apart w0 w0.heap.size Ts w' → IntsAt w' al l := fun Ts w' h => hl.mod (Mod.of_below h.bel) (fun x hx hne e => by have := hlB x hx hne; omega)
  have HBY := Lib.hid BY
  have HIN := Lib.hid IN
  have HLB := Lib.hid hlB
  have HBB := Lib.hid hbB
  have y0 := (XC _ _ h1 rfl rfl)
  rw [hst]
  clear hW1 hk2 h1 XC BY IN hb hl hlB hbB hst
  obtain ⟨y0, y1, y2, y3, y4, y5, y6, y7, y8⟩ := y0
  subst hk
  have hD2 := HH.out.still (Mod.drew (fun _ => False) W1)
  have KO := hD2.open5 rfl rfl rfl (by omega) P.frm size (by have := hwf.fit; omega) (by have := hwf.pos; omega) (by have := hwf.fit; omega)
  obtain ⟨v0, v1, v2, v3, v4, -⟩ := HXC.out _ _ HH.out rfl rfl
  obtain ⟨vi, vm, hq⟩ := HH.out.rpager 4 rfl
  have q1 := hq.cells.2.1
  replace KO := Lib.hid KO
  clear hD2 hq y0 y1 y2 y3 y4 y5 y6 y7 y8
  go_enter Try.func80, Try.ntmps80
  go_upto_region 29 with fail
  rw [← HW1.out]
  refine wp_region_held_drew (S := fun _ => True) (by kernel_rfl) (trivial) (fun hHeld => ?_)
  refine wpAnyH_take (i := 0) (oi := ⟨some 192, .move (.tmp 0), 115, "law.go:116", #[], none⟩) (v := ?_) rfl (by kernel_rfl) (by kernel_rfl) (by kernel_rfl) (fun _ _ _ h => h) (Or.inl ⟨by rfl, ?_⟩) (by assumption) ?_
  rotate_left
  · (intro w hSw; (try dsimp only at hSw); go_simp; try with_reducible rfl)
  simp only [Act.put, List.setIfInBounds_toArray, List.set_cons_zero, List.set_cons_succ]
  refine wpAnyH_take (i := 1) (oi := ⟨some 193, .move (.tmp 0), 115, "law.go:116", #[], none⟩) (v := ?_) rfl (by kernel_rfl) (by kernel_rfl) (by kernel_rfl) (fun _ _ _ h => h) (Or.inl ⟨by rfl, ?_⟩) (by assumption) ?_
  rotate_left
  · (intro w hSw; (try dsimp only at hSw); go_simp; try with_reducible rfl)
  simp only [Act.put, List.setIfInBounds_toArray, List.set_cons_zero, List.set_cons_succ]
  refine wpAnyH_take (i := 2) (oi := ⟨some 194, .nilCheck (.tmp 193), 0, "law.go:116", #[⟨1, .data⟩], none⟩) (v := ?_) rfl (by kernel_rfl) (by kernel_rfl) (by kernel_rfl) (fun _ _ _ h => h) (Or.inl ⟨by rfl, ?_⟩) (by assumption) ?_
  rotate_left
  · (intro w hSw; (try dsimp only at hSw); go_simp; try with_reducible rfl)
  simp only [Act.put, List.setIfInBounds_toArray, List.set_cons_zero, List.set_cons_succ]
  refine wpAnyH_take (i := 3) (oi := ⟨some 195, .fieldAddr 118 (.tmp 194) 3, 0, "law.go:116", #[⟨2, .data⟩], none⟩) (v := ?_) rfl (by kernel_rfl) (by kernel_rfl) (by kernel_rfl) (fun _ _ _ h => h) (Or.inl ⟨by rfl, ?_⟩) (by assumption) ?_
  rotate_left
  · (intro w hSw; (try dsimp only at hSw); go_simp; try with_reducible rfl)
  simp only [Act.put, List.setIfInBounds_toArray, List.set_cons_zero, List.set_cons_succ]
  refine wpAnyH_take (i := 8) (oi := ⟨some 200, .move (.tmp 0), 115, "law.go:116", #[], none⟩) (v := ?_) rfl (by kernel_rfl) (by kernel_rfl) (by kernel_rfl) (fun _ _ _ h => h) (Or.inl ⟨by rfl, ?_⟩) (by assumption) ?_
  rotate_left
  · (intro w hSw; (try dsimp only at hSw); go_simp; try with_reducible rfl)
  simp only [Act.put, List.setIfInBounds_toArray, List.set_cons_zero, List.set_cons_succ]
  refine wpAnyH_take (i := 9) (oi := ⟨some 201, .nilCheck (.tmp 200), 0, "law.go:116", #[⟨8, .data⟩], none⟩) (v := ?_) rfl (by kernel_rfl) (by kernel_rfl) (by kernel_rfl) (fun _ _ _ h => h) (Or.inl ⟨by rfl, ?_⟩) (by assumption) ?_
  rotate_left
  · (intro w hSw; (try dsimp only at hSw); go_simp; try with_reducible rfl)
  simp only [Act.put, List.setIfInBounds_toArray, List.set_cons_zero, List.set_cons_succ]
  refine wpAnyH_take (i := 10) (oi := ⟨some 202, .fieldAddr 118 (.tmp 201) 4, 0, "law.go:116", #[⟨9, .data⟩], none⟩) (v := ?_) rfl (by kernel_rfl) (by kernel_rfl) (by kernel_rfl) (fun _ _ _ h => h) (Or.inl ⟨by rfl, ?_⟩) (by assumption) ?_
  rotate_left
  · (intro w hSw; (try dsimp only at hSw); go_simp; try with_reducible rfl)
  simp only [Act.put, List.setIfInBounds_toArray, List.set_cons_zero, List.set_cons_succ]
  refine wpAnyH_ready (rs := [4, 11]) (by kernel_rfl) (by simp) ?_
  refine AllReadyH.cons (o := ⟨some 196, .load 116 (.tmp 195), 116, "law.go:116", #[⟨3, .data⟩], none⟩) rfl (fun K hK => ?_) (AllReadyH.cons (o := ⟨some 203, .load 3 (.tmp 202), 3, "law.go:116", #[⟨10, .data⟩], none⟩) rfl (fun K hK => ?_) AllReadyH.nil)
  ·
    go_simp
    try simp only []
    refine hK.out _ _ (trivial) (fun _ => ?_)
    clear hK K
    try simp only [Act.put, List.setIfInBounds_toArray, List.set_cons_zero, List.set_cons_succ]
    refine wpAnyH_take (i := 5) (oi := ⟨some 197, .nilCheck (.tmp 196), 0, "law.go:116", #[⟨4, .data⟩], none⟩) (v := ?_) rfl (by kernel_rfl) (by kernel_rfl) (by kernel_rfl) (fun _ _ _ h => h) (Or.inl ⟨by rfl, ?_⟩) (by assumption) ?_
    rotate_left
    · (intro w hSw; (try dsimp only at hSw); go_simp; try with_reducible rfl)
    simp only [Act.put, List.setIfInBounds_toArray, List.set_cons_zero, List.set_cons_succ]
    refine wpAnyH_take (i := 6) (oi := ⟨some 198, .fieldAddr 164 (.tmp 197) 1, 0, "law.go:116", #[⟨5, .data⟩], none⟩) (v := ?_) rfl (by kernel_rfl) (by kernel_rfl) (by kernel_rfl) (fun _ _ _ h => h) (Or.inl ⟨by rfl, ?_⟩) (by assumption) ?_
    rotate_left
    · (intro w hSw; (try dsimp only at hSw); go_simp; try with_reducible rfl)
    simp only [Act.put, List.setIfInBounds_toArray, List.set_cons_zero, List.set_cons_succ]
    refine wpAnyH_ready (rs := [7, 11]) (by kernel_rfl) (by simp) ?_
    refine AllReadyH.cons (o := ⟨some 199, .load 3 (.tmp 198), 3, "law.go:116", #[⟨6, .data⟩], none⟩) rfl (fun K hK => ?_) (AllReadyH.cons (o := ⟨some 203, .load 3 (.tmp 202), 3, "law.go:116", #[⟨10, .data⟩], none⟩) rfl (fun K hK => ?_) AllReadyH.nil)
    ·
      go_simp
      try simp only []
      refine hK.out _ _ (trivial) (fun _ => ?_)
      clear hK K
      try simp only [Act.put, List.setIfInBounds_toArray, List.set_cons_zero, List.set_cons_succ]
      refine wpAnyH_ready (rs := [11]) (by kernel_rfl) (by simp) ?_
      refine AllReadyH.cons (o := ⟨some 203, .load 3 (.tmp 202), 3, "law.go:116", #[⟨10, .data⟩], none⟩) rfl (fun K hK => ?_) AllReadyH.nil
      go_simp
      try simp only []
      refine hK.out _ _ (trivial) (fun _ => ?_)
      clear hK K
      try simp only [Act.put, List.setIfInBounds_toArray, List.set_cons_zero, List.set_cons_succ]
      refine wpAnyH_ready (rs := [12]) (by kernel_rfl) (by simp) ?_
      refine AllReadyH.cons (o := ⟨some 204, .call { callee := .value (.func 79), args := #[.tmp 192, .tmp 199, .tmp 203], argTypes := #[115, 3, 3] }, 4, "law.go:116", #[⟨0, .data⟩, ⟨7, .data⟩, ⟨11, .data⟩], none⟩) rfl (fun K hK => ?_) AllReadyH.nil
      go_simp
      refine KO.out.mono ?_
      rintro e wb ⟨rfl, p', q', hB⟩
      try simp only []
      refine hK.out _ _ (trivial) (fun _ => ?_)
      clear hK K
      try simp only [Act.put, List.setIfInBounds_toArray, List.set_cons_zero, List.set_cons_succ]
      refine wpAnyH_take (i := 13) (oi := ⟨some 4, .assign (.tmp 204), 4, "law.go:116", #[⟨12, .data⟩, ⟨12, .chain⟩, ⟨0, .phase⟩, ⟨1, .phase⟩, ⟨2, .phase⟩, ⟨3, .phase⟩, ⟨4, .phase⟩, ⟨5, .phase⟩, ⟨6, .phase⟩, ⟨7, .phase⟩, ⟨8, .phase⟩, ⟨9, .phase⟩, ⟨10, .phase⟩, ⟨11, .phase⟩, ⟨12, .phase⟩], none⟩) (v := ?_) rfl (by kernel_rfl) (by kernel_rfl) (by kernel_rfl) (fun _ _ _ h => h) (Or.inl ⟨by rfl, ?_⟩) (by assumption) ?_
      rotate_left
      · (intro w hSw; (try dsimp only at hSw); go_simp; try with_reducible rfl)
      simp only [Act.put, List.setIfInBounds_toArray, List.set_cons_zero, List.set_cons_succ]
      refine wpAnyH_done (by kernel_rfl) ?_ _
      go_wp2_with fail
      go_ret
      exact ⟨rfl, p', q', hB⟩
    ·
      go_simp
      try simp only []
      refine hK.out _ _ (trivial) (fun _ => ?_)
      clear hK K
      try simp only [Act.put, List.setIfInBounds_toArray, List.set_cons_zero, List.set_cons_succ]
      refine wpAnyH_ready (rs := [7]) (by kernel_rfl) (by simp) ?_
      refine AllReadyH.cons (o := ⟨some 199, .load 3 (.tmp 198), 3, "law.go:116", #[⟨6, .data⟩], none⟩) rfl (fun K hK => ?_) AllReadyH.nil
      go_simp
      try simp only []
      refine hK.out _ _ (trivial) (fun _ => ?_)
      clear hK K
      try simp only [Act.put, List.setIfInBounds_toArray, List.set_cons_zero, List.set_cons_succ]
      refine wpAnyH_ready (rs := [12]) (by kernel_rfl) (by simp) ?_
      refine AllReadyH.cons (o := ⟨some 204, .call { callee := .value (.func 79), args := #[.tmp 192, .tmp 199, .tmp 203], argTypes := #[115, 3, 3] }, 4, "law.go:116", #[⟨0, .data⟩, ⟨7, .data⟩, ⟨11, .data⟩], none⟩) rfl (fun K hK => ?_) AllReadyH.nil
      go_simp
      refine KO.out.mono ?_
      rintro e wb ⟨rfl, p', q', hB⟩
      try simp only []
      refine hK.out _ _ (trivial) (fun _ => ?_)
      clear hK K
      try simp only [Act.put, List.setIfInBounds_toArray, List.set_cons_zero, List.set_cons_succ]
      refine wpAnyH_take (i := 13) (oi := ⟨some 4, .assign (.tmp 204), 4, "law.go:116", #[⟨12, .data⟩, ⟨12, .chain⟩, ⟨0, .phase⟩, ⟨1, .phase⟩, ⟨2, .phase⟩, ⟨3, .phase⟩, ⟨4, .phase⟩, ⟨5, .phase⟩, ⟨6, .phase⟩, ⟨7, .phase⟩, ⟨8, .phase⟩, ⟨9, .phase⟩, ⟨10, .phase⟩, ⟨11, .phase⟩, ⟨12, .phase⟩], none⟩) (v := ?_) rfl (by kernel_rfl) (by kernel_rfl) (by kernel_rfl) (fun _ _ _ h => h) (Or.inl ⟨by rfl, ?_⟩) (by assumption) ?_
      rotate_left
      · (intro w hSw; (try dsimp only at hSw); go_simp; try with_reducible rfl)
      simp only [Act.put, List.setIfInBounds_toArray, List.set_cons_zero, List.set_cons_succ]
      refine wpAnyH_done (by kernel_rfl) ?_ _
      go_wp2_with fail
      go_ret
      exact ⟨rfl, p', q', hB⟩
  ·
    go_simp
    try simp only []
    refine hK.out _ _ (trivial) (fun _ => ?_)
    clear hK K
    try simp only [Act.put, List.setIfInBounds_toArray, List.set_cons_zero, List.set_cons_succ]
    refine wpAnyH_ready (rs := [4]) (by kernel_rfl) (by simp) ?_
    refine AllReadyH.cons (o := ⟨some 196, .load 116 (.tmp 195), 116, "law.go:116", #[⟨3, .data⟩], none⟩) rfl (fun K hK => ?_) AllReadyH.nil
    go_simp
    try simp only []
    refine hK.out _ _ (trivial) (fun _ => ?_)
    clear hK K
    try simp only [Act.put, List.setIfInBounds_toArray, List.set_cons_zero, List.set_cons_succ]
    refine wpAnyH_take (i := 5) (oi := ⟨some 197, .nilCheck (.tmp 196), 0, "law.go:116", #[⟨4, .data⟩], none⟩) (v := ?_) rfl (by kernel_rfl) (by kernel_rfl) (by kernel_rfl) (fun _ _ _ h => h) (Or.inl ⟨by rfl, ?_⟩) (by assumption) ?_
    rotate_left
    · (intro w hSw; (try dsimp only at hSw); go_simp; try with_reducible rfl)
    simp only [Act.put, List.setIfInBounds_toArray, List.set_cons_zero, List.set_cons_succ]
    refine wpAnyH_take (i := 6) (oi := ⟨some 198, .fieldAddr 164 (.tmp 197) 1, 0, "law.go:116", #[⟨5, .data⟩], none⟩) (v := ?_) rfl (by kernel_rfl) (by kernel_rfl) (by kernel_rfl) (fun _ _ _ h => h) (Or.inl ⟨by rfl, ?_⟩) (by assumption) ?_
    rotate_left
    · (intro w hSw; (try dsimp only at hSw); go_simp; try with_reducible rfl)
    simp only [Act.put, List.setIfInBounds_toArray, List.set_cons_zero, List.set_cons_succ]
    refine wpAnyH_ready (rs := [7]) (by kernel_rfl) (by simp) ?_
    refine AllReadyH.cons (o := ⟨some 199, .load 3 (.tmp 198), 3, "law.go:116", #[⟨6, .data⟩], none⟩) rfl (fun K hK => ?_) AllReadyH.nil
    go_simp
    try simp only []
    refine hK.out _ _ (trivial) (fun _ => ?_)
    clear hK K
    try simp only [Act.put, List.setIfInBounds_toArray, List.set_cons_zero, List.set_cons_succ]
    refine wpAnyH_ready (rs := [12]) (by kernel_rfl) (by simp) ?_
    refine AllReadyH.cons (o := ⟨some 204, .call { callee := .value (.func 79), args := #[.tmp 192, .tmp 199, .tmp 203], argTypes := #[115, 3, 3] }, 4, "law.go:116", #[⟨0, .data⟩, ⟨7, .data⟩, ⟨11, .data⟩], none⟩) rfl (fun K hK => ?_) AllReadyH.nil
    go_simp
    refine KO.out.mono ?_
    rintro e wb ⟨rfl, p', q', hB⟩
    try simp only []
    refine hK.out _ _ (trivial) (fun _ => ?_)
    clear hK K
    try simp only [Act.put, List.setIfInBounds_toArray, List.set_cons_zero, List.set_cons_succ]
    refine wpAnyH_take (i := 13) (oi := ⟨some 4, .assign (.tmp 204), 4, "law.go:116", #[⟨12, .data⟩, ⟨12, .chain⟩, ⟨0, .phase⟩, ⟨1, .phase⟩, ⟨2, .phase⟩, ⟨3, .phase⟩, ⟨4, .phase⟩, ⟨5, .phase⟩, ⟨6, .phase⟩, ⟨7, .phase⟩, ⟨8, .phase⟩, ⟨9, .phase⟩, ⟨10, .phase⟩, ⟨11, .phase⟩, ⟨12, .phase⟩], none⟩) (v := ?_) rfl (by kernel_rfl) (by kernel_rfl) (by kernel_rfl) (fun _ _ _ h => h) (Or.inl ⟨by rfl, ?_⟩) (by assumption) ?_
    rotate_left
    · (intro w hSw; (try dsimp only at hSw); go_simp; try with_reducible rfl)
    simp only [Act.put, List.setIfInBounds_toArray, List.set_cons_zero, List.set_cons_succ]
    refine wpAnyH_done (by kernel_rfl) ?_ _
    go_wp2_with fail
    go_ret
    exact ⟨rfl, p', q', hB⟩
theorem crash_N5 {B : Nat} (l : List Int) (h : ∃ F, DiskAt w B d D F) : (D.crash l).N = D.N := by
  obtain ⟨F, h⟩ := h
  exact crash_N h.wf l

set_option maxHeartbeats 4000000 in
set_option maxRecDepth 100000 in
theorem step5_crash (h : Apart w0 w0.heap.size (bothTs w0.heap.size x d p r q size P D) w) (hwf : P.wf D) (hlim : D.l.length + 1 ≤ 1048576) (hsz : P.pages + 2 = size) (kd n m : Int) (b : List UInt8) (l : List Int) (ab al : Option Addr) (cb cl : Nat) (hb : BytesAt w0 ab b) (_hab : ab = none → cb = 0) (hl : IntsAt w0 al l) (_hbm : b.length ≤ 140737488351232) (hlm : l.length ≤ 140737488351232) (hbB : ∀ x, ab = some x → b ≠ [] → x.block < w0.heap.size) (hlB : ∀ x, al = some x → l ≠ [] → x.block < w0.heap.size) (hk : kd = 9) :
    Calls Try.prog 80 #[.pointer (some ⟨x, 0, none⟩), .agg #[.int .i64 kd, .int .i64 n, .int .i64 m, .slice ab b.length cb, .slice al l.length cl]] w fun e w' => Stepped w0 w0.heap.size x d r size (stepP P D size ⟨kd, n, m, b, l⟩).1 (stepP P D size ⟨kd, n, m, b, l⟩).2 e w' := by
  have hst : stepP P D size ⟨kd, n, m, b, l⟩ = (Pgr.opened P.frm size (D.crash l), D.crash l) := by
    unfold stepP
    simp [hk]
  obtain ⟨W1, hW1⟩ : ∃ W1, W1 = w.alloc (.cells #[.int .i64 kd, .int .i64 n, .int .i64 m, .slice ab b.length cb, .slice al l.length cl] 102) := ⟨_, rfl⟩
  obtain ⟨k, hk2⟩ : ∃ k, k = w.heap.size := ⟨_, rfl⟩
  have h1 : Apart w0 w0.heap.size (bothTs w0.heap.size x d p r q size P D ++ [BlkT w0.heap.size k (opWO ⟨kd, n, m, b, l⟩ ab cb al cl)]) W1 := by rw [hW1, hk2]; exact h.lay _
  have XC : ∀ (Ts : List (Thg w0.heap.size)) w', Apart w0 w0.heap.size Ts w' → Ts[2]? = some (BlkT w0.heap.size x (xObj d r (.pointer (some ⟨p, 0, none⟩)) (.pointer (some ⟨q, 0, none⟩)) (size : Int))) → Ts[5]? = some (BlkT w0.heap.size k (opWO ⟨kd, n, m, b, l⟩ ab cb al cl)) → _ := fun Ts w' h h2 h5 => h.cells5 h2 h5
  dsimp only at XC
  have HXC := Lib.hid XC
  have HW1 := Lib.hid hW1
  have HK2 := Lib.hid hk2
  have HH := Lib.hid h1
  have BY : ∀ (Ts : List (Thg w0.heap.size)) w', Apart w0 w0.heap.size Ts w' → BytesAt w' ab b := fun Ts w' h => hb.below h.bel hbB
  have IN : ∀ (Ts : List (Thg w0.heap.size)) w', Apart w0 w0.heap.size Ts w' → IntsAt w' al l := fun Ts w' h => hl.mod (Mod.of_below h.bel) (fun x hx hne e => by have := hlB x hx hne; omega)
  have HBY := Lib.hid BY
  have HIN := Lib.hid IN
  have HLB := Lib.hid hlB
  have HBB := Lib.hid hbB
  have y0 := (XC _ _ h1 rfl rfl)
  rw [hst]
  clear hW1 hk2 h1 XC BY IN hb hl hlB hbB hst
  obtain ⟨y0, y1, y2, y3, y4, y5, y6, y7, y8⟩ := y0
  subst hk
  have HFT := Lib.hid (show P.frm + 2 + P.pages ≤ (D.crash l).N by rw [crash_N5 l (HH.out.disk 0 rfl)]; exact hwf.fit)
  have HCL := Lib.hid (show (D.crash l).l.length = 0 from rfl)
  have KR : ∀ (Ts : List (Thg w0.heap.size)) w', Apart w0 w0.heap.size Ts w' → Ts[1]? = some (RDiskT w0.heap.size r D) → _ := fun Ts w' h h1 => h.rcrash 1 h1 (by omega) al l cl (HIN.out _ _ h) HLB.out (by omega)
  have KC : ∀ (Ts : List (Thg w0.heap.size)) w', Apart w0 w0.heap.size Ts w' → Ts[0]? = some (DiskT w0.heap.size d D) → _ := fun Ts w' h h0 => h.crash 0 h0 al l l.length cl rfl (HIN.out _ _ h) HLB.out (by omega)
  replace KR := Lib.hid KR
  replace KC := Lib.hid KC
  have HD1 := Lib.hid (HH.out.still (Mod.drew (fun _ => False) W1))
  go_enter Try.func80, Try.ntmps80
  go_upto_region 26 with fail
  rw [← HW1.out, ← HK2.out]
  clear y0 y1 y2 y3 y4 y5 y6 y7 y8
  refine wp_region_held_drew (S := fun w' => w'.cell? ⟨x, 0, none⟩ = some (.pointer (some ⟨d, 0, none⟩)) ∧ w'.cell? ⟨x, 1, none⟩ = some (.pointer (some ⟨p, 0, none⟩)) ∧ w'.cell? ⟨x, 2, none⟩ = some (.pointer (some ⟨r, 0, none⟩)) ∧ w'.cell? ⟨x, 3, none⟩ = some (.pointer (some ⟨q, 0, none⟩)) ∧ w'.cell? ⟨x, 4, none⟩ = some (.int .i64 (size : Int)) ∧ w'.cell? ⟨k, 1, none⟩ = some (.int .i64 n) ∧ w'.cell? ⟨k, 2, none⟩ = some (.int .i64 m) ∧ w'.cell? ⟨k, 3, none⟩ = some (.slice ab b.length cb) ∧ w'.cell? ⟨k, 4, none⟩ = some (.slice al l.length cl)) (by kernel_rfl) (HXC.out _ _ HD1.out rfl rfl) (fun hHeld => ?_)
  refine wpAnyH_take (i := 0) (oi := ⟨some 160, .move (.tmp 0), 115, "law.go:113", #[], none⟩) (v := ?_) rfl (by kernel_rfl) (by kernel_rfl) (by kernel_rfl) (fun _ _ _ h => h) (Or.inl ⟨by rfl, ?_⟩) (by assumption) ?_
  rotate_left
  · (intro w hSw; (try dsimp only at hSw); go_simp; try with_reducible rfl)
  simp only [Act.put, List.setIfInBounds_toArray, List.set_cons_zero, List.set_cons_succ]
  refine wpAnyH_take (i := 1) (oi := ⟨some 161, .nilCheck (.tmp 160), 0, "law.go:113", #[⟨0, .data⟩], none⟩) (v := ?_) rfl (by kernel_rfl) (by kernel_rfl) (by kernel_rfl) (fun _ _ _ h => h) (Or.inl ⟨by rfl, ?_⟩) (by assumption) ?_
  rotate_left
  · (intro w hSw; (try dsimp only at hSw); go_simp; try with_reducible rfl)
  simp only [Act.put, List.setIfInBounds_toArray, List.set_cons_zero, List.set_cons_succ]
  refine wpAnyH_take (i := 2) (oi := ⟨some 162, .fieldAddr 118 (.tmp 161) 2, 0, "law.go:113", #[⟨1, .data⟩], none⟩) (v := ?_) rfl (by kernel_rfl) (by kernel_rfl) (by kernel_rfl) (fun _ _ _ h => h) (Or.inl ⟨by rfl, ?_⟩) (by assumption) ?_
  rotate_left
  · (intro w hSw; (try dsimp only at hSw); go_simp; try with_reducible rfl)
  simp only [Act.put, List.setIfInBounds_toArray, List.set_cons_zero, List.set_cons_succ]
  refine wpAnyH_take (i := 3) (oi := ⟨some 163, .load 60 (.tmp 162), 60, "law.go:113", #[⟨2, .data⟩], none⟩) (v := ?_) rfl (by kernel_rfl) (by kernel_rfl) (by kernel_rfl) (fun _ _ _ h => h) (Or.inl ⟨by rfl, ?_⟩) (by assumption) ?_
  rotate_left
  · (intro w hSw; (try dsimp only at hSw); go_simp; try with_reducible rfl)
  simp only [Act.put, List.setIfInBounds_toArray, List.set_cons_zero, List.set_cons_succ]
  refine wpAnyH_take (i := 4) (oi := ⟨some 164, .fieldAddr 102 (.tmp 3) 4, 0, "law.go:113", #[], none⟩) (v := ?_) rfl (by kernel_rfl) (by kernel_rfl) (by kernel_rfl) (fun _ _ _ h => h) (Or.inl ⟨by rfl, ?_⟩) (by assumption) ?_
  rotate_left
  · (intro w hSw; (try dsimp only at hSw); go_simp; try with_reducible rfl)
  simp only [Act.put, List.setIfInBounds_toArray, List.set_cons_zero, List.set_cons_succ]
  refine wpAnyH_take (i := 5) (oi := ⟨some 165, .load 39 (.tmp 164), 39, "law.go:113", #[⟨4, .data⟩], none⟩) (v := ?_) rfl (by kernel_rfl) (by kernel_rfl) (by kernel_rfl) (fun _ _ _ h => h) (Or.inl ⟨by rfl, ?_⟩) (by assumption) ?_
  rotate_left
  · (intro w hSw; (try dsimp only at hSw); go_simp; try with_reducible rfl)
  simp only [Act.put, List.setIfInBounds_toArray, List.set_cons_zero, List.set_cons_succ]
  refine wpAnyH_ready (rs := [6]) (by kernel_rfl) (by simp) ?_
  refine AllReadyH.cons (o := ⟨some 166, .call { callee := .value (.func 92), args := #[.tmp 163, .tmp 165], argTypes := #[60, 39] }, 0, "law.go:113", #[⟨3, .data⟩, ⟨5, .data⟩], none⟩) rfl (fun K hK => ?_) AllReadyH.nil
  go_simp
  refine (KR.out _ _ HD1.out rfl).mono ?_
  rintro e wa ⟨rfl, hA⟩
  try simp only []
  refine hK.out _ _ (HXC.out _ _ hA rfl rfl) (fun _ => ?_)
  clear hK K
  try simp only [Act.put, List.setIfInBounds_toArray, List.set_cons_zero, List.set_cons_succ]
  refine wpAnyH_done (by kernel_rfl) ?_ _
  have HD2 := Lib.hid (hA.still (Mod.drew (fun _ => False) wa))
  obtain ⟨u0, u1, u2, u3, u4, -, -, -, u8⟩ := HXC.out _ _ hA rfl rfl
  clear hA
  go_upto_region 27 with fail
  go_cut [4] (fun s4 wx => s4 = .bool true ∧ ∃ p' q', Apart w0 w0.heap.size (bothTs w0.heap.size x d p' r q' size (Pgr.opened P.frm size (D.crash l)) (D.crash l)) wx)
  case first =>
    refine wp_region_held_drew (S := fun _ => True) (by kernel_rfl) (trivial) (fun hHeld => ?_)
    refine wpAnyH_take (i := 0) (oi := ⟨some 167, .move (.tmp 0), 115, "law.go:114", #[], none⟩) (v := ?_) rfl (by kernel_rfl) (by kernel_rfl) (by kernel_rfl) (fun _ _ _ h => h) (Or.inl ⟨by rfl, ?_⟩) (by assumption) ?_
    rotate_left
    · (intro w hSw; (try dsimp only at hSw); go_simp; try with_reducible rfl)
    simp only [Act.put, List.setIfInBounds_toArray, List.set_cons_zero, List.set_cons_succ]
    refine wpAnyH_take (i := 1) (oi := ⟨some 168, .nilCheck (.tmp 167), 0, "law.go:114", #[⟨0, .data⟩], none⟩) (v := ?_) rfl (by kernel_rfl) (by kernel_rfl) (by kernel_rfl) (fun _ _ _ h => h) (Or.inl ⟨by rfl, ?_⟩) (by assumption) ?_
    rotate_left
    · (intro w hSw; (try dsimp only at hSw); go_simp; try with_reducible rfl)
    simp only [Act.put, List.setIfInBounds_toArray, List.set_cons_zero, List.set_cons_succ]
    refine wpAnyH_take (i := 2) (oi := ⟨some 169, .fieldAddr 118 (.tmp 168) 0, 0, "law.go:114", #[⟨1, .data⟩], none⟩) (v := ?_) rfl (by kernel_rfl) (by kernel_rfl) (by kernel_rfl) (fun _ _ _ h => h) (Or.inl ⟨by rfl, ?_⟩) (by assumption) ?_
    rotate_left
    · (intro w hSw; (try dsimp only at hSw); go_simp; try with_reducible rfl)
    simp only [Act.put, List.setIfInBounds_toArray, List.set_cons_zero, List.set_cons_succ]
    refine wpAnyH_take (i := 4) (oi := ⟨some 171, .fieldAddr 102 (.tmp 3) 4, 0, "law.go:114", #[], none⟩) (v := ?_) rfl (by kernel_rfl) (by kernel_rfl) (by kernel_rfl) (fun _ _ _ h => h) (Or.inl ⟨by rfl, ?_⟩) (by assumption) ?_
    rotate_left
    · (intro w hSw; (try dsimp only at hSw); go_simp; try with_reducible rfl)
    simp only [Act.put, List.setIfInBounds_toArray, List.set_cons_zero, List.set_cons_succ]
    refine wpAnyH_ready (rs := [3, 5]) (by kernel_rfl) (by simp) ?_
    refine AllReadyH.cons (o := ⟨some 170, .load 40 (.tmp 169), 40, "law.go:114", #[⟨2, .data⟩], none⟩) rfl (fun K hK => ?_) (AllReadyH.cons (o := ⟨some 172, .load 39 (.tmp 171), 39, "law.go:114", #[⟨4, .data⟩], none⟩) rfl (fun K hK => ?_) AllReadyH.nil)
    ·
      go_simp
      try simp only []
      refine hK.out _ _ (trivial) (fun _ => ?_)
      clear hK K
      try simp only [Act.put, List.setIfInBounds_toArray, List.set_cons_zero, List.set_cons_succ]
      refine wpAnyH_ready (rs := [5]) (by kernel_rfl) (by simp) ?_
      refine AllReadyH.cons (o := ⟨some 172, .load 39 (.tmp 171), 39, "law.go:114", #[⟨4, .data⟩], none⟩) rfl (fun K hK => ?_) AllReadyH.nil
      go_simp
      try simp only []
      refine hK.out _ _ (trivial) (fun _ => ?_)
      clear hK K
      try simp only [Act.put, List.setIfInBounds_toArray, List.set_cons_zero, List.set_cons_succ]
      refine wpAnyH_ready (rs := [6]) (by kernel_rfl) (by simp) ?_
      refine AllReadyH.cons (o := ⟨some 173, .call { callee := .value (.func 33), args := #[.tmp 170, .tmp 172], argTypes := #[40, 39] }, 32, "law.go:114", #[⟨3, .data⟩, ⟨5, .data⟩], none⟩) rfl (fun K hK => ?_) AllReadyH.nil
      go_simp
      refine (KC.out _ _ HD2.out rfl).mono ?_
      rintro e wb ⟨rfl, hB⟩
      obtain ⟨v0, v1, v2, v3, v4, -⟩ := HXC.out _ _ hB rfl rfl
      obtain ⟨vi, vm, hq⟩ := hB.rpager 4 rfl
      have q1 := hq.cells.2.1
      have KO := hB.open5 rfl rfl rfl (by rw [HCL.out]; omega) P.frm size (by have := HFT.out; omega) (by have := hwf.pos; omega) (by have := HFT.out; omega)
      replace KO := Lib.hid KO
      have HB := Lib.hid hB
      clear hq hB
      try simp only []
      refine hK.out _ _ (trivial) (fun _ => ?_)
      clear hK K
      try simp only [Act.put, List.setIfInBounds_toArray, List.set_cons_zero, List.set_cons_succ]
      refine wpAnyH_take (i := 7) (oi := ⟨some 174, .binOp .eql 32 (.tmp 173) (.const (.int .i64 0)) 32, 4, "law.go:114", #[⟨6, .data⟩], none⟩) (v := ?_) rfl (by kernel_rfl) (by kernel_rfl) (by kernel_rfl) (fun _ _ _ h => h) (Or.inl ⟨by rfl, ?_⟩) (by assumption) ?_
      rotate_left
      · (intro w hSw; (try dsimp only at hSw); go_simp; try with_reducible rfl)
      simp only [Act.put, List.setIfInBounds_toArray, List.set_cons_zero, List.set_cons_succ]
      refine wpAnyH_take (i := 8) (oi := ⟨some 175, .move (.tmp 174), 4, "law.go:114", #[⟨7, .data⟩, ⟨6, .chain⟩], none⟩) (v := ?_) rfl (by kernel_rfl) (by kernel_rfl) (by kernel_rfl) (fun _ _ _ h => h) (Or.inl ⟨by rfl, ?_⟩) (by assumption) ?_
      rotate_left
      · (intro w hSw; (try dsimp only at hSw); go_simp; try with_reducible rfl)
      simp only [Act.put, List.setIfInBounds_toArray, List.set_cons_zero, List.set_cons_succ]
      refine wpAnyH_take (i := 9) (oi := ⟨some 176, .move (.tmp 0), 115, "law.go:114", #[⟨8, .guard⟩], some (8, true)⟩) (v := ?_) rfl (by kernel_rfl) (by kernel_rfl) (by kernel_rfl) (fun _ _ _ h => h) (Or.inl ⟨by rfl, ?_⟩) (by assumption) ?_
      rotate_left
      · (intro w hSw; (try dsimp only at hSw); go_simp; try with_reducible rfl)
      simp only [Act.put, List.setIfInBounds_toArray, List.set_cons_zero, List.set_cons_succ]
      refine wpAnyH_take (i := 10) (oi := ⟨some 177, .move (.tmp 0), 115, "law.go:114", #[⟨8, .guard⟩], some (8, true)⟩) (v := ?_) rfl (by kernel_rfl) (by kernel_rfl) (by kernel_rfl) (fun _ _ _ h => h) (Or.inl ⟨by rfl, ?_⟩) (by assumption) ?_
      rotate_left
      · (intro w hSw; (try dsimp only at hSw); go_simp; try with_reducible rfl)
      simp only [Act.put, List.setIfInBounds_toArray, List.set_cons_zero, List.set_cons_succ]
      refine wpAnyH_take (i := 11) (oi := ⟨some 178, .nilCheck (.tmp 177), 0, "law.go:114", #[⟨10, .data⟩, ⟨8, .guard⟩], some (8, true)⟩) (v := ?_) rfl (by kernel_rfl) (by kernel_rfl) (by kernel_rfl) (fun _ _ _ h => h) (Or.inl ⟨by rfl, ?_⟩) (by assumption) ?_
      rotate_left
      · (intro w hSw; (try dsimp only at hSw); go_simp; try with_reducible rfl)
      simp only [Act.put, List.setIfInBounds_toArray, List.set_cons_zero, List.set_cons_succ]
      refine wpAnyH_take (i := 12) (oi := ⟨some 179, .fieldAddr 118 (.tmp 178) 3, 0, "law.go:114", #[⟨11, .data⟩, ⟨8, .guard⟩], some (8, true)⟩) (v := ?_) rfl (by kernel_rfl) (by kernel_rfl) (by kernel_rfl) (fun _ _ _ h => h) (Or.inl ⟨by rfl, ?_⟩) (by assumption) ?_
      rotate_left
      · (intro w hSw; (try dsimp only at hSw); go_simp; try with_reducible rfl)
      simp only [Act.put, List.setIfInBounds_toArray, List.set_cons_zero, List.set_cons_succ]
      refine wpAnyH_take (i := 17) (oi := ⟨some 184, .move (.tmp 0), 115, "law.go:114", #[⟨8, .guard⟩], some (8, true)⟩) (v := ?_) rfl (by kernel_rfl) (by kernel_rfl) (by kernel_rfl) (fun _ _ _ h => h) (Or.inl ⟨by rfl, ?_⟩) (by assumption) ?_
      rotate_left
      · (intro w hSw; (try dsimp only at hSw); go_simp; try with_reducible rfl)
      simp only [Act.put, List.setIfInBounds_toArray, List.set_cons_zero, List.set_cons_succ]
      refine wpAnyH_take (i := 18) (oi := ⟨some 185, .nilCheck (.tmp 184), 0, "law.go:114", #[⟨17, .data⟩, ⟨8, .guard⟩], some (8, true)⟩) (v := ?_) rfl (by kernel_rfl) (by kernel_rfl) (by kernel_rfl) (fun _ _ _ h => h) (Or.inl ⟨by rfl, ?_⟩) (by assumption) ?_
      rotate_left
      · (intro w hSw; (try dsimp only at hSw); go_simp; try with_reducible rfl)
      simp only [Act.put, List.setIfInBounds_toArray, List.set_cons_zero, List.set_cons_succ]
      refine wpAnyH_take (i := 19) (oi := ⟨some 186, .fieldAddr 118 (.tmp 185) 4, 0, "law.go:114", #[⟨18, .data⟩, ⟨8, .guard⟩], some (8, true)⟩) (v := ?_) rfl (by kernel_rfl) (by kernel_rfl) (by kernel_rfl) (fun _ _ _ h => h) (Or.inl ⟨by rfl, ?_⟩) (by assumption) ?_
      rotate_left
      · (intro w hSw; (try dsimp only at hSw); go_simp; try with_reducible rfl)
      simp only [Act.put, List.setIfInBounds_toArray, List.set_cons_zero, List.set_cons_succ]
      refine wpAnyH_ready (rs := [13, 20]) (by kernel_rfl) (by simp) ?_
      refine AllReadyH.cons (o := ⟨some 180, .load 116 (.tmp 179), 116, "law.go:114", #[⟨12, .data⟩, ⟨8, .guard⟩], some (8, true)⟩) rfl (fun K hK => ?_) (AllReadyH.cons (o := ⟨some 187, .load 3 (.tmp 186), 3, "law.go:114", #[⟨19, .data⟩, ⟨8, .guard⟩], some (8, true)⟩) rfl (fun K hK => ?_) AllReadyH.nil)
      ·
        go_simp
        try simp only []
        refine hK.out _ _ (trivial) (fun _ => ?_)
        clear hK K
        try simp only [Act.put, List.setIfInBounds_toArray, List.set_cons_zero, List.set_cons_succ]
        refine wpAnyH_take (i := 14) (oi := ⟨some 181, .nilCheck (.tmp 180), 0, "law.go:114", #[⟨13, .data⟩, ⟨8, .guard⟩], some (8, true)⟩) (v := ?_) rfl (by kernel_rfl) (by kernel_rfl) (by kernel_rfl) (fun _ _ _ h => h) (Or.inl ⟨by rfl, ?_⟩) (by assumption) ?_
        rotate_left
        · (intro w hSw; (try dsimp only at hSw); go_simp; try with_reducible rfl)
        simp only [Act.put, List.setIfInBounds_toArray, List.set_cons_zero, List.set_cons_succ]
        refine wpAnyH_take (i := 15) (oi := ⟨some 182, .fieldAddr 164 (.tmp 181) 1, 0, "law.go:114", #[⟨14, .data⟩, ⟨8, .guard⟩], some (8, true)⟩) (v := ?_) rfl (by kernel_rfl) (by kernel_rfl) (by kernel_rfl) (fun _ _ _ h => h) (Or.inl ⟨by rfl, ?_⟩) (by assumption) ?_
        rotate_left
        · (intro w hSw; (try dsimp only at hSw); go_simp; try with_reducible rfl)
        simp only [Act.put, List.setIfInBounds_toArray, List.set_cons_zero, List.set_cons_succ]
        refine wpAnyH_ready (rs := [16, 20]) (by kernel_rfl) (by simp) ?_
        refine AllReadyH.cons (o := ⟨some 183, .load 3 (.tmp 182), 3, "law.go:114", #[⟨15, .data⟩, ⟨8, .guard⟩], some (8, true)⟩) rfl (fun K hK => ?_) (AllReadyH.cons (o := ⟨some 187, .load 3 (.tmp 186), 3, "law.go:114", #[⟨19, .data⟩, ⟨8, .guard⟩], some (8, true)⟩) rfl (fun K hK => ?_) AllReadyH.nil)
        ·
          go_simp
          try simp only []
          refine hK.out _ _ (trivial) (fun _ => ?_)
          clear hK K
          try simp only [Act.put, List.setIfInBounds_toArray, List.set_cons_zero, List.set_cons_succ]
          refine wpAnyH_ready (rs := [20]) (by kernel_rfl) (by simp) ?_
          refine AllReadyH.cons (o := ⟨some 187, .load 3 (.tmp 186), 3, "law.go:114", #[⟨19, .data⟩, ⟨8, .guard⟩], some (8, true)⟩) rfl (fun K hK => ?_) AllReadyH.nil
          go_simp
          try simp only []
          refine hK.out _ _ (trivial) (fun _ => ?_)
          clear hK K
          try simp only [Act.put, List.setIfInBounds_toArray, List.set_cons_zero, List.set_cons_succ]
          refine wpAnyH_ready (rs := [21]) (by kernel_rfl) (by simp) ?_
          refine AllReadyH.cons (o := ⟨some 188, .call { callee := .value (.func 79), args := #[.tmp 176, .tmp 183, .tmp 187], argTypes := #[115, 3, 3] }, 4, "law.go:114", #[⟨9, .data⟩, ⟨16, .data⟩, ⟨20, .data⟩, ⟨8, .chain⟩, ⟨8, .guard⟩], some (8, true)⟩) rfl (fun K hK => ?_) AllReadyH.nil
          go_simp
          refine KO.out.mono ?_
          rintro e wc ⟨rfl, p', q', hC⟩
          try simp only []
          refine hK.out _ _ (trivial) (fun _ => ?_)
          clear hK K
          try simp only [Act.put, List.setIfInBounds_toArray, List.set_cons_zero, List.set_cons_succ]
          refine wpAnyH_take (i := 22) (oi := ⟨some 189, .pick (.tmp 175) (.tmp 188) (.const (.bool false)), 4, "law.go:114", #[⟨8, .data⟩, ⟨21, .data⟩], none⟩) (v := ?_) rfl (by kernel_rfl) (by kernel_rfl) (by kernel_rfl) (fun _ _ _ h => h) (Or.inl ⟨by rfl, ?_⟩) (by assumption) ?_
          rotate_left
          · (intro w hSw; (try dsimp only at hSw); go_simp; try with_reducible rfl)
          simp only [Act.put, List.setIfInBounds_toArray, List.set_cons_zero, List.set_cons_succ]
          refine wpAnyH_take (i := 23) (oi := ⟨some 4, .assign (.tmp 189), 4, "law.go:114", #[⟨22, .data⟩, ⟨21, .chain⟩, ⟨0, .phase⟩, ⟨1, .phase⟩, ⟨2, .phase⟩, ⟨3, .phase⟩, ⟨4, .phase⟩, ⟨5, .phase⟩, ⟨6, .phase⟩, ⟨7, .phase⟩, ⟨8, .phase⟩, ⟨9, .phase⟩, ⟨10, .phase⟩, ⟨11, .phase⟩, ⟨12, .phase⟩, ⟨13, .phase⟩, ⟨14, .phase⟩, ⟨15, .phase⟩, ⟨16, .phase⟩, ⟨17, .phase⟩, ⟨18, .phase⟩, ⟨19, .phase⟩, ⟨20, .phase⟩, ⟨21, .phase⟩, ⟨22, .phase⟩], none⟩) (v := ?_) rfl (by kernel_rfl) (by kernel_rfl) (by kernel_rfl) (fun _ _ _ h => h) (Or.inl ⟨by rfl, ?_⟩) (by assumption) ?_
          rotate_left
          · (intro w hSw; (try dsimp only at hSw); go_simp; try with_reducible rfl)
          simp only [Act.put, List.setIfInBounds_toArray, List.set_cons_zero, List.set_cons_succ]
          refine wpAnyH_done (by kernel_rfl) ?_ _
          go_wp2_with fail
          go_meet
          exact ⟨rfl, p', q', hC⟩
        ·
          go_simp
          try simp only []
          refine hK.out _ _ (trivial) (fun _ => ?_)
          clear hK K
          try simp only [Act.put, List.setIfInBounds_toArray, List.set_cons_zero, List.set_cons_succ]
          refine wpAnyH_ready (rs := [16]) (by kernel_rfl) (by simp) ?_
          refine AllReadyH.cons (o := ⟨some 183, .load 3 (.tmp 182), 3, "law.go:114", #[⟨15, .data⟩, ⟨8, .guard⟩], some (8, true)⟩) rfl (fun K hK => ?_) AllReadyH.nil
          go_simp
          try simp only []
          refine hK.out _ _ (trivial) (fun _ => ?_)
          clear hK K
          try simp only [Act.put, List.setIfInBounds_toArray, List.set_cons_zero, List.set_cons_succ]
          refine wpAnyH_ready (rs := [21]) (by kernel_rfl) (by simp) ?_
          refine AllReadyH.cons (o := ⟨some 188, .call { callee := .value (.func 79), args := #[.tmp 176, .tmp 183, .tmp 187], argTypes := #[115, 3, 3] }, 4, "law.go:114", #[⟨9, .data⟩, ⟨16, .data⟩, ⟨20, .data⟩, ⟨8, .chain⟩, ⟨8, .guard⟩], some (8, true)⟩) rfl (fun K hK => ?_) AllReadyH.nil
          go_simp
          refine KO.out.mono ?_
          rintro e wc ⟨rfl, p', q', hC⟩
          try simp only []
          refine hK.out _ _ (trivial) (fun _ => ?_)
          clear hK K
          try simp only [Act.put, List.setIfInBounds_toArray, List.set_cons_zero, List.set_cons_succ]
          refine wpAnyH_take (i := 22) (oi := ⟨some 189, .pick (.tmp 175) (.tmp 188) (.const (.bool false)), 4, "law.go:114", #[⟨8, .data⟩, ⟨21, .data⟩], none⟩) (v := ?_) rfl (by kernel_rfl) (by kernel_rfl) (by kernel_rfl) (fun _ _ _ h => h) (Or.inl ⟨by rfl, ?_⟩) (by assumption) ?_
          rotate_left
          · (intro w hSw; (try dsimp only at hSw); go_simp; try with_reducible rfl)
          simp only [Act.put, List.setIfInBounds_toArray, List.set_cons_zero, List.set_cons_succ]
          refine wpAnyH_take (i := 23) (oi := ⟨some 4, .assign (.tmp 189), 4, "law.go:114", #[⟨22, .data⟩, ⟨21, .chain⟩, ⟨0, .phase⟩, ⟨1, .phase⟩, ⟨2, .phase⟩, ⟨3, .phase⟩, ⟨4, .phase⟩, ⟨5, .phase⟩, ⟨6, .phase⟩, ⟨7, .phase⟩, ⟨8, .phase⟩, ⟨9, .phase⟩, ⟨10, .phase⟩, ⟨11, .phase⟩, ⟨12, .phase⟩, ⟨13, .phase⟩, ⟨14, .phase⟩, ⟨15, .phase⟩, ⟨16, .phase⟩, ⟨17, .phase⟩, ⟨18, .phase⟩, ⟨19, .phase⟩, ⟨20, .phase⟩, ⟨21, .phase⟩, ⟨22, .phase⟩], none⟩) (v := ?_) rfl (by kernel_rfl) (by kernel_rfl) (by kernel_rfl) (fun _ _ _ h => h) (Or.inl ⟨by rfl, ?_⟩) (by assumption) ?_
          rotate_left
          · (intro w hSw; (try dsimp only at hSw); go_simp; try with_reducible rfl)
          simp only [Act.put, List.setIfInBounds_toArray, List.set_cons_zero, List.set_cons_succ]
          refine wpAnyH_done (by kernel_rfl) ?_ _
          go_wp2_with fail
          go_meet
          exact ⟨rfl, p', q', hC⟩
      ·
        go_simp
        try simp only []
        refine hK.out _ _ (trivial) (fun _ => ?_)
        clear hK K
        try simp only [Act.put, List.setIfInBounds_toArray, List.set_cons_zero, List.set_cons_succ]
        refine wpAnyH_ready (rs := [13]) (by kernel_rfl) (by simp) ?_
        refine AllReadyH.cons (o := ⟨some 180, .load 116 (.tmp 179), 116, "law.go:114", #[⟨12, .data⟩, ⟨8, .guard⟩], some (8, true)⟩) rfl (fun K hK => ?_) AllReadyH.nil
        go_simp
        try simp only []
        refine hK.out _ _ (trivial) (fun _ => ?_)
        clear hK K
        try simp only [Act.put, List.setIfInBounds_toArray, List.set_cons_zero, List.set_cons_succ]
        refine wpAnyH_take (i := 14) (oi := ⟨some 181, .nilCheck (.tmp 180), 0, "law.go:114", #[⟨13, .data⟩, ⟨8, .guard⟩], some (8, true)⟩) (v := ?_) rfl (by kernel_rfl) (by kernel_rfl) (by kernel_rfl) (fun _ _ _ h => h) (Or.inl ⟨by rfl, ?_⟩) (by assumption) ?_
        rotate_left
        · (intro w hSw; (try dsimp only at hSw); go_simp; try with_reducible rfl)
        simp only [Act.put, List.setIfInBounds_toArray, List.set_cons_zero, List.set_cons_succ]
        refine wpAnyH_take (i := 15) (oi := ⟨some 182, .fieldAddr 164 (.tmp 181) 1, 0, "law.go:114", #[⟨14, .data⟩, ⟨8, .guard⟩], some (8, true)⟩) (v := ?_) rfl (by kernel_rfl) (by kernel_rfl) (by kernel_rfl) (fun _ _ _ h => h) (Or.inl ⟨by rfl, ?_⟩) (by assumption) ?_
        rotate_left
        · (intro w hSw; (try dsimp only at hSw); go_simp; try with_reducible rfl)
        simp only [Act.put, List.setIfInBounds_toArray, List.set_cons_zero, List.set_cons_succ]
        refine wpAnyH_ready (rs := [16]) (by kernel_rfl) (by simp) ?_
        refine AllReadyH.cons (o := ⟨some 183, .load 3 (.tmp 182), 3, "law.go:114", #[⟨15, .data⟩, ⟨8, .guard⟩], some (8, true)⟩) rfl (fun K hK => ?_) AllReadyH.nil
        go_simp
        try simp only []
        refine hK.out _ _ (trivial) (fun _ => ?_)
        clear hK K
        try simp only [Act.put, List.setIfInBounds_toArray, List.set_cons_zero, List.set_cons_succ]
        refine wpAnyH_ready (rs := [21]) (by kernel_rfl) (by simp) ?_
        refine AllReadyH.cons (o := ⟨some 188, .call { callee := .value (.func 79), args := #[.tmp 176, .tmp 183, .tmp 187], argTypes := #[115, 3, 3] }, 4, "law.go:114", #[⟨9, .data⟩, ⟨16, .data⟩, ⟨20, .data⟩, ⟨8, .chain⟩, ⟨8, .guard⟩], some (8, true)⟩) rfl (fun K hK => ?_) AllReadyH.nil
        go_simp
        refine KO.out.mono ?_
        rintro e wc ⟨rfl, p', q', hC⟩
        try simp only []
        refine hK.out _ _ (trivial) (fun _ => ?_)
        clear hK K
        try simp only [Act.put, List.setIfInBounds_toArray, List.set_cons_zero, List.set_cons_succ]
        refine wpAnyH_take (i := 22) (oi := ⟨some 189, .pick (.tmp 175) (.tmp 188) (.const (.bool false)), 4, "law.go:114", #[⟨8, .data⟩, ⟨21, .data⟩], none⟩) (v := ?_) rfl (by kernel_rfl) (by kernel_rfl) (by kernel_rfl) (fun _ _ _ h => h) (Or.inl ⟨by rfl, ?_⟩) (by assumption) ?_
        rotate_left
        · (intro w hSw; (try dsimp only at hSw); go_simp; try with_reducible rfl)
        simp only [Act.put, List.setIfInBounds_toArray, List.set_cons_zero, List.set_cons_succ]
        refine wpAnyH_take (i := 23) (oi := ⟨some 4, .assign (.tmp 189), 4, "law.go:114", #[⟨22, .data⟩, ⟨21, .chain⟩, ⟨0, .phase⟩, ⟨1, .phase⟩, ⟨2, .phase⟩, ⟨3, .phase⟩, ⟨4, .phase⟩, ⟨5, .phase⟩, ⟨6, .phase⟩, ⟨7, .phase⟩, ⟨8, .phase⟩, ⟨9, .phase⟩, ⟨10, .phase⟩, ⟨11, .phase⟩, ⟨12, .phase⟩, ⟨13, .phase⟩, ⟨14, .phase⟩, ⟨15, .phase⟩, ⟨16, .phase⟩, ⟨17, .phase⟩, ⟨18, .phase⟩, ⟨19, .phase⟩, ⟨20, .phase⟩, ⟨21, .phase⟩, ⟨22, .phase⟩], none⟩) (v := ?_) rfl (by kernel_rfl) (by kernel_rfl) (by kernel_rfl) (fun _ _ _ h => h) (Or.inl ⟨by rfl, ?_⟩) (by assumption) ?_
        rotate_left
        · (intro w hSw; (try dsimp only at hSw); go_simp; try with_reducible rfl)
        simp only [Act.put, List.setIfInBounds_toArray, List.set_cons_zero, List.set_cons_succ]
        refine wpAnyH_done (by kernel_rfl) ?_ _
        go_wp2_with fail
        go_meet
        exact ⟨rfl, p', q', hC⟩
    ·
      go_simp
      try simp only []
      refine hK.out _ _ (trivial) (fun _ => ?_)
      clear hK K
      try simp only [Act.put, List.setIfInBounds_toArray, List.set_cons_zero, List.set_cons_succ]
      refine wpAnyH_ready (rs := [3]) (by kernel_rfl) (by simp) ?_
      refine AllReadyH.cons (o := ⟨some 170, .load 40 (.tmp 169), 40, "law.go:114", #[⟨2, .data⟩], none⟩) rfl (fun K hK => ?_) AllReadyH.nil
      go_simp
      try simp only []
      refine hK.out _ _ (trivial) (fun _ => ?_)
      clear hK K
      try simp only [Act.put, List.setIfInBounds_toArray, List.set_cons_zero, List.set_cons_succ]
      refine wpAnyH_ready (rs := [6]) (by kernel_rfl) (by simp) ?_
      refine AllReadyH.cons (o := ⟨some 173, .call { callee := .value (.func 33), args := #[.tmp 170, .tmp 172], argTypes := #[40, 39] }, 32, "law.go:114", #[⟨3, .data⟩, ⟨5, .data⟩], none⟩) rfl (fun K hK => ?_) AllReadyH.nil
      go_simp
      refine (KC.out _ _ HD2.out rfl).mono ?_
      rintro e wb ⟨rfl, hB⟩
      obtain ⟨v0, v1, v2, v3, v4, -⟩ := HXC.out _ _ hB rfl rfl
      obtain ⟨vi, vm, hq⟩ := hB.rpager 4 rfl
      have q1 := hq.cells.2.1
      have KO := hB.open5 rfl rfl rfl (by rw [HCL.out]; omega) P.frm size (by have := HFT.out; omega) (by have := hwf.pos; omega) (by have := HFT.out; omega)
      replace KO := Lib.hid KO
      have HB := Lib.hid hB
      clear hq hB
      try simp only []
      refine hK.out _ _ (trivial) (fun _ => ?_)
      clear hK K
      try simp only [Act.put, List.setIfInBounds_toArray, List.set_cons_zero, List.set_cons_succ]
      refine wpAnyH_take (i := 7) (oi := ⟨some 174, .binOp .eql 32 (.tmp 173) (.const (.int .i64 0)) 32, 4, "law.go:114", #[⟨6, .data⟩], none⟩) (v := ?_) rfl (by kernel_rfl) (by kernel_rfl) (by kernel_rfl) (fun _ _ _ h => h) (Or.inl ⟨by rfl, ?_⟩) (by assumption) ?_
      rotate_left
      · (intro w hSw; (try dsimp only at hSw); go_simp; try with_reducible rfl)
      simp only [Act.put, List.setIfInBounds_toArray, List.set_cons_zero, List.set_cons_succ]
      refine wpAnyH_take (i := 8) (oi := ⟨some 175, .move (.tmp 174), 4, "law.go:114", #[⟨7, .data⟩, ⟨6, .chain⟩], none⟩) (v := ?_) rfl (by kernel_rfl) (by kernel_rfl) (by kernel_rfl) (fun _ _ _ h => h) (Or.inl ⟨by rfl, ?_⟩) (by assumption) ?_
      rotate_left
      · (intro w hSw; (try dsimp only at hSw); go_simp; try with_reducible rfl)
      simp only [Act.put, List.setIfInBounds_toArray, List.set_cons_zero, List.set_cons_succ]
      refine wpAnyH_take (i := 9) (oi := ⟨some 176, .move (.tmp 0), 115, "law.go:114", #[⟨8, .guard⟩], some (8, true)⟩) (v := ?_) rfl (by kernel_rfl) (by kernel_rfl) (by kernel_rfl) (fun _ _ _ h => h) (Or.inl ⟨by rfl, ?_⟩) (by assumption) ?_
      rotate_left
      · (intro w hSw; (try dsimp only at hSw); go_simp; try with_reducible rfl)
      simp only [Act.put, List.setIfInBounds_toArray, List.set_cons_zero, List.set_cons_succ]
      refine wpAnyH_take (i := 10) (oi := ⟨some 177, .move (.tmp 0), 115, "law.go:114", #[⟨8, .guard⟩], some (8, true)⟩) (v := ?_) rfl (by kernel_rfl) (by kernel_rfl) (by kernel_rfl) (fun _ _ _ h => h) (Or.inl ⟨by rfl, ?_⟩) (by assumption) ?_
      rotate_left
      · (intro w hSw; (try dsimp only at hSw); go_simp; try with_reducible rfl)
      simp only [Act.put, List.setIfInBounds_toArray, List.set_cons_zero, List.set_cons_succ]
      refine wpAnyH_take (i := 11) (oi := ⟨some 178, .nilCheck (.tmp 177), 0, "law.go:114", #[⟨10, .data⟩, ⟨8, .guard⟩], some (8, true)⟩) (v := ?_) rfl (by kernel_rfl) (by kernel_rfl) (by kernel_rfl) (fun _ _ _ h => h) (Or.inl ⟨by rfl, ?_⟩) (by assumption) ?_
      rotate_left
      · (intro w hSw; (try dsimp only at hSw); go_simp; try with_reducible rfl)
      simp only [Act.put, List.setIfInBounds_toArray, List.set_cons_zero, List.set_cons_succ]
      refine wpAnyH_take (i := 12) (oi := ⟨some 179, .fieldAddr 118 (.tmp 178) 3, 0, "law.go:114", #[⟨11, .data⟩, ⟨8, .guard⟩], some (8, true)⟩) (v := ?_) rfl (by kernel_rfl) (by kernel_rfl) (by kernel_rfl) (fun _ _ _ h => h) (Or.inl ⟨by rfl, ?_⟩) (by assumption) ?_
      rotate_left
      · (intro w hSw; (try dsimp only at hSw); go_simp; try with_reducible rfl)
      simp only [Act.put, List.setIfInBounds_toArray, List.set_cons_zero, List.set_cons_succ]
      refine wpAnyH_take (i := 17) (oi := ⟨some 184, .move (.tmp 0), 115, "law.go:114", #[⟨8, .guard⟩], some (8, true)⟩) (v := ?_) rfl (by kernel_rfl) (by kernel_rfl) (by kernel_rfl) (fun _ _ _ h => h) (Or.inl ⟨by rfl, ?_⟩) (by assumption) ?_
      rotate_left
      · (intro w hSw; (try dsimp only at hSw); go_simp; try with_reducible rfl)
      simp only [Act.put, List.setIfInBounds_toArray, List.set_cons_zero, List.set_cons_succ]
      refine wpAnyH_take (i := 18) (oi := ⟨some 185, .nilCheck (.tmp 184), 0, "law.go:114", #[⟨17, .data⟩, ⟨8, .guard⟩], some (8, true)⟩) (v := ?_) rfl (by kernel_rfl) (by kernel_rfl) (by kernel_rfl) (fun _ _ _ h => h) (Or.inl ⟨by rfl, ?_⟩) (by assumption) ?_
      rotate_left
      · (intro w hSw; (try dsimp only at hSw); go_simp; try with_reducible rfl)
      simp only [Act.put, List.setIfInBounds_toArray, List.set_cons_zero, List.set_cons_succ]
      refine wpAnyH_take (i := 19) (oi := ⟨some 186, .fieldAddr 118 (.tmp 185) 4, 0, "law.go:114", #[⟨18, .data⟩, ⟨8, .guard⟩], some (8, true)⟩) (v := ?_) rfl (by kernel_rfl) (by kernel_rfl) (by kernel_rfl) (fun _ _ _ h => h) (Or.inl ⟨by rfl, ?_⟩) (by assumption) ?_
      rotate_left
      · (intro w hSw; (try dsimp only at hSw); go_simp; try with_reducible rfl)
      simp only [Act.put, List.setIfInBounds_toArray, List.set_cons_zero, List.set_cons_succ]
      refine wpAnyH_ready (rs := [13, 20]) (by kernel_rfl) (by simp) ?_
      refine AllReadyH.cons (o := ⟨some 180, .load 116 (.tmp 179), 116, "law.go:114", #[⟨12, .data⟩, ⟨8, .guard⟩], some (8, true)⟩) rfl (fun K hK => ?_) (AllReadyH.cons (o := ⟨some 187, .load 3 (.tmp 186), 3, "law.go:114", #[⟨19, .data⟩, ⟨8, .guard⟩], some (8, true)⟩) rfl (fun K hK => ?_) AllReadyH.nil)
      ·
        go_simp
        try simp only []
        refine hK.out _ _ (trivial) (fun _ => ?_)
        clear hK K
        try simp only [Act.put, List.setIfInBounds_toArray, List.set_cons_zero, List.set_cons_succ]
        refine wpAnyH_take (i := 14) (oi := ⟨some 181, .nilCheck (.tmp 180), 0, "law.go:114", #[⟨13, .data⟩, ⟨8, .guard⟩], some (8, true)⟩) (v := ?_) rfl (by kernel_rfl) (by kernel_rfl) (by kernel_rfl) (fun _ _ _ h => h) (Or.inl ⟨by rfl, ?_⟩) (by assumption) ?_
        rotate_left
        · (intro w hSw; (try dsimp only at hSw); go_simp; try with_reducible rfl)
        simp only [Act.put, List.setIfInBounds_toArray, List.set_cons_zero, List.set_cons_succ]
        refine wpAnyH_take (i := 15) (oi := ⟨some 182, .fieldAddr 164 (.tmp 181) 1, 0, "law.go:114", #[⟨14, .data⟩, ⟨8, .guard⟩], some (8, true)⟩) (v := ?_) rfl (by kernel_rfl) (by kernel_rfl) (by kernel_rfl) (fun _ _ _ h => h) (Or.inl ⟨by rfl, ?_⟩) (by assumption) ?_
        rotate_left
        · (intro w hSw; (try dsimp only at hSw); go_simp; try with_reducible rfl)
        simp only [Act.put, List.setIfInBounds_toArray, List.set_cons_zero, List.set_cons_succ]
        refine wpAnyH_ready (rs := [16, 20]) (by kernel_rfl) (by simp) ?_
        refine AllReadyH.cons (o := ⟨some 183, .load 3 (.tmp 182), 3, "law.go:114", #[⟨15, .data⟩, ⟨8, .guard⟩], some (8, true)⟩) rfl (fun K hK => ?_) (AllReadyH.cons (o := ⟨some 187, .load 3 (.tmp 186), 3, "law.go:114", #[⟨19, .data⟩, ⟨8, .guard⟩], some (8, true)⟩) rfl (fun K hK => ?_) AllReadyH.nil)
        ·
          go_simp
          try simp only []
          refine hK.out _ _ (trivial) (fun _ => ?_)
          clear hK K
          try simp only [Act.put, List.setIfInBounds_toArray, List.set_cons_zero, List.set_cons_succ]
          refine wpAnyH_ready (rs := [20]) (by kernel_rfl) (by simp) ?_
          refine AllReadyH.cons (o := ⟨some 187, .load 3 (.tmp 186), 3, "law.go:114", #[⟨19, .data⟩, ⟨8, .guard⟩], some (8, true)⟩) rfl (fun K hK => ?_) AllReadyH.nil
          go_simp
          try simp only []
          refine hK.out _ _ (trivial) (fun _ => ?_)
          clear hK K
          try simp only [Act.put, List.setIfInBounds_toArray, List.set_cons_zero, List.set_cons_succ]
          refine wpAnyH_ready (rs := [21]) (by kernel_rfl) (by simp) ?_
          refine AllReadyH.cons (o := ⟨some 188, .call { callee := .value (.func 79), args := #[.tmp 176, .tmp 183, .tmp 187], argTypes := #[115, 3, 3] }, 4, "law.go:114", #[⟨9, .data⟩, ⟨16, .data⟩, ⟨20, .data⟩, ⟨8, .chain⟩, ⟨8, .guard⟩], some (8, true)⟩) rfl (fun K hK => ?_) AllReadyH.nil
          go_simp
          refine KO.out.mono ?_
          rintro e wc ⟨rfl, p', q', hC⟩
          try simp only []
          refine hK.out _ _ (trivial) (fun _ => ?_)
          clear hK K
          try simp only [Act.put, List.setIfInBounds_toArray, List.set_cons_zero, List.set_cons_succ]
          refine wpAnyH_take (i := 22) (oi := ⟨some 189, .pick (.tmp 175) (.tmp 188) (.const (.bool false)), 4, "law.go:114", #[⟨8, .data⟩, ⟨21, .data⟩], none⟩) (v := ?_) rfl (by kernel_rfl) (by kernel_rfl) (by kernel_rfl) (fun _ _ _ h => h) (Or.inl ⟨by rfl, ?_⟩) (by assumption) ?_
          rotate_left
          · (intro w hSw; (try dsimp only at hSw); go_simp; try with_reducible rfl)
          simp only [Act.put, List.setIfInBounds_toArray, List.set_cons_zero, List.set_cons_succ]
          refine wpAnyH_take (i := 23) (oi := ⟨some 4, .assign (.tmp 189), 4, "law.go:114", #[⟨22, .data⟩, ⟨21, .chain⟩, ⟨0, .phase⟩, ⟨1, .phase⟩, ⟨2, .phase⟩, ⟨3, .phase⟩, ⟨4, .phase⟩, ⟨5, .phase⟩, ⟨6, .phase⟩, ⟨7, .phase⟩, ⟨8, .phase⟩, ⟨9, .phase⟩, ⟨10, .phase⟩, ⟨11, .phase⟩, ⟨12, .phase⟩, ⟨13, .phase⟩, ⟨14, .phase⟩, ⟨15, .phase⟩, ⟨16, .phase⟩, ⟨17, .phase⟩, ⟨18, .phase⟩, ⟨19, .phase⟩, ⟨20, .phase⟩, ⟨21, .phase⟩, ⟨22, .phase⟩], none⟩) (v := ?_) rfl (by kernel_rfl) (by kernel_rfl) (by kernel_rfl) (fun _ _ _ h => h) (Or.inl ⟨by rfl, ?_⟩) (by assumption) ?_
          rotate_left
          · (intro w hSw; (try dsimp only at hSw); go_simp; try with_reducible rfl)
          simp only [Act.put, List.setIfInBounds_toArray, List.set_cons_zero, List.set_cons_succ]
          refine wpAnyH_done (by kernel_rfl) ?_ _
          go_wp2_with fail
          go_meet
          exact ⟨rfl, p', q', hC⟩
        ·
          go_simp
          try simp only []
          refine hK.out _ _ (trivial) (fun _ => ?_)
          clear hK K
          try simp only [Act.put, List.setIfInBounds_toArray, List.set_cons_zero, List.set_cons_succ]
          refine wpAnyH_ready (rs := [16]) (by kernel_rfl) (by simp) ?_
          refine AllReadyH.cons (o := ⟨some 183, .load 3 (.tmp 182), 3, "law.go:114", #[⟨15, .data⟩, ⟨8, .guard⟩], some (8, true)⟩) rfl (fun K hK => ?_) AllReadyH.nil
          go_simp
          try simp only []
          refine hK.out _ _ (trivial) (fun _ => ?_)
          clear hK K
          try simp only [Act.put, List.setIfInBounds_toArray, List.set_cons_zero, List.set_cons_succ]
          refine wpAnyH_ready (rs := [21]) (by kernel_rfl) (by simp) ?_
          refine AllReadyH.cons (o := ⟨some 188, .call { callee := .value (.func 79), args := #[.tmp 176, .tmp 183, .tmp 187], argTypes := #[115, 3, 3] }, 4, "law.go:114", #[⟨9, .data⟩, ⟨16, .data⟩, ⟨20, .data⟩, ⟨8, .chain⟩, ⟨8, .guard⟩], some (8, true)⟩) rfl (fun K hK => ?_) AllReadyH.nil
          go_simp
          refine KO.out.mono ?_
          rintro e wc ⟨rfl, p', q', hC⟩
          try simp only []
          refine hK.out _ _ (trivial) (fun _ => ?_)
          clear hK K
          try simp only [Act.put, List.setIfInBounds_toArray, List.set_cons_zero, List.set_cons_succ]
          refine wpAnyH_take (i := 22) (oi := ⟨some 189, .pick (.tmp 175) (.tmp 188) (.const (.bool false)), 4, "law.go:114", #[⟨8, .data⟩, ⟨21, .data⟩], none⟩) (v := ?_) rfl (by kernel_rfl) (by kernel_rfl) (by kernel_rfl) (fun _ _ _ h => h) (Or.inl ⟨by rfl, ?_⟩) (by assumption) ?_
          rotate_left
          · (intro w hSw; (try dsimp only at hSw); go_simp; try with_reducible rfl)
          simp only [Act.put, List.setIfInBounds_toArray, List.set_cons_zero, List.set_cons_succ]
          refine wpAnyH_take (i := 23) (oi := ⟨some 4, .assign (.tmp 189), 4, "law.go:114", #[⟨22, .data⟩, ⟨21, .chain⟩, ⟨0, .phase⟩, ⟨1, .phase⟩, ⟨2, .phase⟩, ⟨3, .phase⟩, ⟨4, .phase⟩, ⟨5, .phase⟩, ⟨6, .phase⟩, ⟨7, .phase⟩, ⟨8, .phase⟩, ⟨9, .phase⟩, ⟨10, .phase⟩, ⟨11, .phase⟩, ⟨12, .phase⟩, ⟨13, .phase⟩, ⟨14, .phase⟩, ⟨15, .phase⟩, ⟨16, .phase⟩, ⟨17, .phase⟩, ⟨18, .phase⟩, ⟨19, .phase⟩, ⟨20, .phase⟩, ⟨21, .phase⟩, ⟨22, .phase⟩], none⟩) (v := ?_) rfl (by kernel_rfl) (by kernel_rfl) (by kernel_rfl) (fun _ _ _ h => h) (Or.inl ⟨by rfl, ?_⟩) (by assumption) ?_
          rotate_left
          · (intro w hSw; (try dsimp only at hSw); go_simp; try with_reducible rfl)
          simp only [Act.put, List.setIfInBounds_toArray, List.set_cons_zero, List.set_cons_succ]
          refine wpAnyH_done (by kernel_rfl) ?_ _
          go_wp2_with fail
          go_meet
          exact ⟨rfl, p', q', hC⟩
      ·
        go_simp
        try simp only []
        refine hK.out _ _ (trivial) (fun _ => ?_)
        clear hK K
        try simp only [Act.put, List.setIfInBounds_toArray, List.set_cons_zero, List.set_cons_succ]
        refine wpAnyH_ready (rs := [13]) (by kernel_rfl) (by simp) ?_
        refine AllReadyH.cons (o := ⟨some 180, .load 116 (.tmp 179), 116, "law.go:114", #[⟨12, .data⟩, ⟨8, .guard⟩], some (8, true)⟩) rfl (fun K hK => ?_) AllReadyH.nil
        go_simp
        try simp only []
        refine hK.out _ _ (trivial) (fun _ => ?_)
        clear hK K
        try simp only [Act.put, List.setIfInBounds_toArray, List.set_cons_zero, List.set_cons_succ]
        refine wpAnyH_take (i := 14) (oi := ⟨some 181, .nilCheck (.tmp 180), 0, "law.go:114", #[⟨13, .data⟩, ⟨8, .guard⟩], some (8, true)⟩) (v := ?_) rfl (by kernel_rfl) (by kernel_rfl) (by kernel_rfl) (fun _ _ _ h => h) (Or.inl ⟨by rfl, ?_⟩) (by assumption) ?_
        rotate_left
        · (intro w hSw; (try dsimp only at hSw); go_simp; try with_reducible rfl)
        simp only [Act.put, List.setIfInBounds_toArray, List.set_cons_zero, List.set_cons_succ]
        refine wpAnyH_take (i := 15) (oi := ⟨some 182, .fieldAddr 164 (.tmp 181) 1, 0, "law.go:114", #[⟨14, .data⟩, ⟨8, .guard⟩], some (8, true)⟩) (v := ?_) rfl (by kernel_rfl) (by kernel_rfl) (by kernel_rfl) (fun _ _ _ h => h) (Or.inl ⟨by rfl, ?_⟩) (by assumption) ?_
        rotate_left
        · (intro w hSw; (try dsimp only at hSw); go_simp; try with_reducible rfl)
        simp only [Act.put, List.setIfInBounds_toArray, List.set_cons_zero, List.set_cons_succ]
        refine wpAnyH_ready (rs := [16]) (by kernel_rfl) (by simp) ?_
        refine AllReadyH.cons (o := ⟨some 183, .load 3 (.tmp 182), 3, "law.go:114", #[⟨15, .data⟩, ⟨8, .guard⟩], some (8, true)⟩) rfl (fun K hK => ?_) AllReadyH.nil
        go_simp
        try simp only []
        refine hK.out _ _ (trivial) (fun _ => ?_)
        clear hK K
        try simp only [Act.put, List.setIfInBounds_toArray, List.set_cons_zero, List.set_cons_succ]
        refine wpAnyH_ready (rs := [21]) (by kernel_rfl) (by simp) ?_
        refine AllReadyH.cons (o := ⟨some 188, .call { callee := .value (.func 79), args := #[.tmp 176, .tmp 183, .tmp 187], argTypes := #[115, 3, 3] }, 4, "law.go:114", #[⟨9, .data⟩, ⟨16, .data⟩, ⟨20, .data⟩, ⟨8, .chain⟩, ⟨8, .guard⟩], some (8, true)⟩) rfl (fun K hK => ?_) AllReadyH.nil
        go_simp
        refine KO.out.mono ?_
        rintro e wc ⟨rfl, p', q', hC⟩
        try simp only []
        refine hK.out _ _ (trivial) (fun _ => ?_)
        clear hK K
        try simp only [Act.put, List.setIfInBounds_toArray, List.set_cons_zero, List.set_cons_succ]
        refine wpAnyH_take (i := 22) (oi := ⟨some 189, .pick (.tmp 175) (.tmp 188) (.const (.bool false)), 4, "law.go:114", #[⟨8, .data⟩, ⟨21, .data⟩], none⟩) (v := ?_) rfl (by kernel_rfl) (by kernel_rfl) (by kernel_rfl) (fun _ _ _ h => h) (Or.inl ⟨by rfl, ?_⟩) (by assumption) ?_
        rotate_left
        · (intro w hSw; (try dsimp only at hSw); go_simp; try with_reducible rfl)
        simp only [Act.put, List.setIfInBounds_toArray, List.set_cons_zero, List.set_cons_succ]
        refine wpAnyH_take (i := 23) (oi := ⟨some 4, .assign (.tmp 189), 4, "law.go:114", #[⟨22, .data⟩, ⟨21, .chain⟩, ⟨0, .phase⟩, ⟨1, .phase⟩, ⟨2, .phase⟩, ⟨3, .phase⟩, ⟨4, .phase⟩, ⟨5, .phase⟩, ⟨6, .phase⟩, ⟨7, .phase⟩, ⟨8, .phase⟩, ⟨9, .phase⟩, ⟨10, .phase⟩, ⟨11, .phase⟩, ⟨12, .phase⟩, ⟨13, .phase⟩, ⟨14, .phase⟩, ⟨15, .phase⟩, ⟨16, .phase⟩, ⟨17, .phase⟩, ⟨18, .phase⟩, ⟨19, .phase⟩, ⟨20, .phase⟩, ⟨21, .phase⟩, ⟨22, .phase⟩], none⟩) (v := ?_) rfl (by kernel_rfl) (by kernel_rfl) (by kernel_rfl) (fun _ _ _ h => h) (Or.inl ⟨by rfl, ?_⟩) (by assumption) ?_
        rotate_left
        · (intro w hSw; (try dsimp only at hSw); go_simp; try with_reducible rfl)
        simp only [Act.put, List.setIfInBounds_toArray, List.set_cons_zero, List.set_cons_succ]
        refine wpAnyH_done (by kernel_rfl) ?_ _
        go_wp2_with fail
        go_meet
        exact ⟨rfl, p', q', hC⟩
  case rest =>
    obtain ⟨rfl, p', q', hC⟩ := hcut
    go_wp2_with fail
    go_ret
    exact ⟨rfl, p', q', hC⟩

set_option maxHeartbeats 4000000 in
set_option maxRecDepth 100000 in
theorem step5_none (h : Apart w0 w0.heap.size (bothTs w0.heap.size x d p r q size P D) w) (_hwf : P.wf D) (_hlim : D.l.length + 1 ≤ 1048576) (kd n m : Int) (b : List UInt8) (l : List Int) (ab al : Option Addr) (cb cl : Nat) (hb : BytesAt w0 ab b) (_hab : ab = none → cb = 0) (hl : IntsAt w0 al l) (_hbm : b.length ≤ 140737488351232) (_hlm : l.length ≤ 140737488351232) (hbB : ∀ x, ab = some x → b ≠ [] → x.block < w0.heap.size) (hlB : ∀ x, al = some x → l ≠ [] → x.block < w0.heap.size) (hk : ¬ kd = 0 ∧ ¬ kd = 1 ∧ ¬ kd = 2 ∧ ¬ kd = 3 ∧ ¬ kd = 4 ∧ ¬ kd = 5 ∧ ¬ kd = 6 ∧ ¬ kd = 7 ∧ ¬ kd = 8 ∧ ¬ kd = 9 ∧ ¬ kd = 10) :
    Calls Try.prog 80 #[.pointer (some ⟨x, 0, none⟩), .agg #[.int .i64 kd, .int .i64 n, .int .i64 m, .slice ab b.length cb, .slice al l.length cl]] w fun e w' => Stepped w0 w0.heap.size x d r size (stepP P D size ⟨kd, n, m, b, l⟩).1 (stepP P D size ⟨kd, n, m, b, l⟩).2 e w' := by
  have hst : stepP P D size ⟨kd, n, m, b, l⟩ = (P, D) := by
    unfold stepP
    simp [hk]
  obtain ⟨W1, hW1⟩ : ∃ W1, W1 = w.alloc (.cells #[.int .i64 kd, .int .i64 n, .int .i64 m, .slice ab b.length cb, .slice al l.length cl] 102) := ⟨_, rfl⟩
  obtain ⟨k, hk2⟩ : ∃ k, k = w.heap.size := ⟨_, rfl⟩
  have h1 : Apart w0 w0.heap.size (bothTs w0.heap.size x d p r q size P D ++ [BlkT w0.heap.size k (opWO ⟨kd, n, m, b, l⟩ ab cb al cl)]) W1 := by rw [hW1, hk2]; exact h.lay _
  have XC : ∀ (Ts : List (Thg w0.heap.size)) w', Apart w0 w0.heap.size Ts w' → Ts[2]? = some (BlkT w0.heap.size x (xObj d r (.pointer (some ⟨p, 0, none⟩)) (.pointer (some ⟨q, 0, none⟩)) (size : Int))) → Ts[5]? = some (BlkT w0.heap.size k (opWO ⟨kd, n, m, b, l⟩ ab cb al cl)) → _ := fun Ts w' h h2 h5 => h.cells5 h2 h5
  dsimp only at XC
  have HXC := Lib.hid XC
  have HW1 := Lib.hid hW1
  have HK2 := Lib.hid hk2
  have HH := Lib.hid h1
  have BY : ∀ (Ts : List (Thg w0.heap.size)) w', Apart w0 w0.heap.size Ts w' → BytesAt w' ab b := fun Ts w' h => hb.below h.bel hbB
  have IN : ∀ (Ts : List (Thg w0.heap.size)) w', Apart w0 w0.heap.size Ts w' → IntsAt w' al l := fun Ts w' h => hl.mod (Mod.of_below h.bel) (fun x hx hne e => by have := hlB x hx hne; omega)
  have HBY := Lib.hid BY
  have HIN := Lib.hid IN
  have HLB := Lib.hid hlB
  have HBB := Lib.hid hbB
  have y0 := (XC _ _ h1 rfl rfl)
  rw [hst]
  clear hW1 hk2 h1 XC BY IN hb hl hlB hbB hst
  obtain ⟨y0, y1, y2, y3, y4, y5, y6, y7, y8⟩ := y0
  have e : ∀ i : Int, ¬ kd = i → (kd == i) = false := fun i h => by simpa using h
  have e0 := e 0 hk.1
  have e1 := e 1 hk.2.1
  have e2 := e 2 hk.2.2.1
  have e3 := e 3 hk.2.2.2.1
  have e4 := e 4 hk.2.2.2.2.1
  have e5 := e 5 hk.2.2.2.2.2.1
  have e6 := e 6 hk.2.2.2.2.2.2.1
  have e7 := e 7 hk.2.2.2.2.2.2.2.1
  have e8 := e 8 hk.2.2.2.2.2.2.2.2.1
  have e9 := e 9 hk.2.2.2.2.2.2.2.2.2.1
  have e10 := e 10 hk.2.2.2.2.2.2.2.2.2.2
  clear e hk y0 y1 y2 y3 y4 y5 y6 y7 y8
  go_enter Try.func80, Try.ntmps80
  go_wp2
  go_ret
  rw [← HW1.out]
  exact ⟨rfl, p, q, HH.out.take 5⟩
end
end Go.Proofs.Ytdinnkacilgmmaa
namespace Go.Proofs.Ytdinnkacilgmmaa
open Go.RowKit

/-- what holds behind i steps -/
structure PlayI (N size i : Nat) (P : Pgr) (D : Dsk) : Prop where
  wf : P.wf D
  dk : D.wf
  n : D.N = N
  l : D.l.length ≤ i
  gen : P.root.gen ≤ 1152921504606846976 + i
  sz : P.pages + 2 = size

theorem N_of {D E : Dsk} (h : E.safe.length = D.safe.length) : E.N = D.N := by unfold Dsk.N; rw [h]
theorem Pgr.wf.to {P : Pgr} {D E : Dsk} (h : P.wf D) (hN : E.N = D.N) : P.wf E := ⟨h.len, by rw [hN]; exact h.fit, by rw [hN]; exact h.top, h.pos, h.root⟩
theorem bestAt_gen (pages frm : Nat) (D : Dsk) : ∀ i, (bestAt pages frm D i).gen ≤ 1152921504606846976
  | 0 => Nat.zero_le _
  | i + 1 => by
    rw [bestAt]
    unfold Rt.better
    split
    · rename_i x hx
      split
      · exact (rootOf_pos hx).2
      · exact bestAt_gen pages frm D i
    · exact bestAt_gen pages frm D i

section
variable {N size i : Nat} {P : Pgr} {D : Dsk}
theorem PlayI.opened (h : PlayI N size i P D) {E : Dsk} (hE : E.wf) (hN : E.N = D.N) (hl : E.l.length ≤ i + 1) : PlayI N size (i + 1) (Pgr.opened P.frm size E) E := by
  have hfit := h.wf.fit
  have htop := h.wf.top
  have hpos := h.wf.pos
  have hsz := h.sz
  have h2 : size - 2 ≤ 4096 := by omega
  refine ⟨⟨zeros4096_length, ?_, by rw [hN]; exact htop, ?_, bestAt_ok h2 2⟩, hE, hN.trans h.n, hl, ?_, ?_⟩
  · show P.frm + 2 + (size - 2) ≤ E.N
    rw [hN]; omega
  · show 1 ≤ size - 2
    omega
  · have := bestAt_gen (size - 2) P.frm E 2
    show (bestAt (size - 2) P.frm E 2).gen ≤ _
    omega
  · show size - 2 + 2 = size
    omega
theorem PlayI.same (h : PlayI N size i P D) (is_ : List UInt8) (hl : is_.length = 4096) (dead : Bool) {E : Dsk} (hE : E.wf) (hN : E.N = D.N) (hle : E.l.length ≤ i + 1) : PlayI N size (i + 1) { P with is_ := is_, dead := dead } E :=
  ⟨⟨hl, by rw [hN]; exact h.wf.fit, by rw [hN]; exact h.wf.top, h.wf.pos, h.wf.root⟩, hE, hN.trans h.n, hle, by have := h.gen; show P.root.gen ≤ _; omega, h.sz⟩
theorem PlayI.next (h : PlayI N size i P D) : PlayI N size (i + 1) P D := ⟨h.wf, h.dk, h.n, by have := h.l; omega, by have := h.gen; omega, h.sz⟩
theorem PlayI.write (h : PlayI N size i P D) (b : List UInt8) : PlayI N size (i + 1) (P.write D b).2.2.1 (P.write D b).2.2.2 := by
  unfold Pgr.write
  split
  · exact h.next
  split
  · exact h.next
  split
  · exact h.next
  unfold Pgr.writeAt
  have hw := h.dk.write (((P.frm + 2 + P.empties.getD 0 0 : Nat)) : Int) (seal_ b)
  have hs := Dsk.wf.write_len (D := D) (((P.frm + 2 + P.empties.getD 0 0 : Nat)) : Int) (seal_ b)
  have hl := h.l
  split
  · exact h.same _ (by rw [List.length_set]; exact h.wf.len) P.dead hw (N_of (by rw [hs.1])) (by show (D.write _ _).l.length ≤ _; omega)
  · exact h.same P.is_ h.wf.len true hw (N_of (by rw [hs.1])) (by show (D.write _ _).l.length ≤ _; omega)
theorem flipD_wf (h : D.wf) (n : Int) (s : List UInt8) : (flipD D n s).2.wf ∧ (flipD D n s).2.N = D.N ∧ (flipD D n s).2.l.length ≤ D.l.length + 1 := by
  have s1 := h.sync
  have n1 : D.sync.N = D.N := N_of h.sync_len.1
  have l1 : D.sync.l.length ≤ D.l.length := by
    unfold Dsk.sync; split
    · exact Nat.le_refl _
    split
    · exact Nat.le_refl _
    · exact Nat.zero_le _
  have s2 := s1.write n s
  have w2 := Dsk.wf.write_len (D := D.sync) n s
  have n2 : (D.sync.write n s).N = D.N := (N_of (by rw [w2.1])).trans n1
  have s3 := s2.sync
  have n3 : (D.sync.write n s).sync.N = D.N := (N_of s2.sync_len.1).trans n2
  have l3 : (D.sync.write n s).sync.l.length ≤ (D.sync.write n s).l.length := by
    generalize D.sync.write n s = E
    unfold Dsk.sync; split
    · exact Nat.le_refl _
    split
    · exact Nat.le_refl _
    · exact Nat.zero_le _
  unfold flipD
  split
  · exact ⟨s1, n1, by show D.sync.l.length ≤ _; omega⟩
  split
  · exact ⟨s2, n2, by show (D.sync.write n s).l.length ≤ _; omega⟩
  · exact ⟨s3, n3, by show (D.sync.write n s).sync.l.length ≤ _; omega⟩
theorem PlayI.flip (h : PlayI N size i P D) (hi : i ≤ 100) (page next : Int) (m : List UInt8) (l : List Int) : PlayI N size (i + 1) (P.flip D page next m l).2.1 (P.flip D page next m l).2.2 := by
  unfold Pgr.flip
  split
  · exact h.next
  rename_i hw
  have hf := flipD_wf h.dk ((P.frm + (P.root.gen + 1) % 2 : Nat) : Int) (slotB (P.toFlip page next m))
  have hl := h.l
  have hg := h.gen
  split
  · have hok := whyFlip_ok (Classical.byContradiction fun e => hw e)
    have hfit := h.wf.fit
    have htop := h.wf.top
    refine ⟨⟨by show (setAll l zeros4096).length = 4096; rw [setAll_length, zeros4096_length], by rw [hf.2.1]; exact hfit, by rw [hf.2.1]; exact htop, h.wf.pos, ?_⟩, hf.1, hf.2.1.trans h.n, by show (flipD D _ _).2.l.length ≤ _; omega, by show P.root.gen + 1 ≤ _; omega, h.sz⟩
    have h4 := hok.2.1
    have h5 := hok.2.2.1
    exact ⟨by show P.root.gen + 1 < _; omega, ⟨h4.1, by show page ≤ 4096; omega⟩, by show next.toNat < _; omega, hok.2.2.2.2⟩
  · exact h.same P.is_ h.wf.len true hf.1 hf.2.1 (by show (flipD D _ _).2.l.length ≤ _; omega)
theorem PlayI.step (h : PlayI N size i P D) (hi : i ≤ 100) (o : OpW) : PlayI N size (i + 1) (stepP P D size o).1 (stepP P D size o).2 := by
  have hl := h.l
  unfold stepP
  split
  · exact h.write o.b
  split
  · unfold Pgr.release
    split
    · exact h.same _ (by rw [List.length_set]; exact h.wf.len) P.dead h.dk rfl (by show D.l.length ≤ _; omega)
    · exact h.next
  split
  · exact h.flip hi o.n o.m o.b o.l
  split
  · unfold Pgr.use
    split
    · exact h.next
    · exact h.same _ (by rw [setAll_length, zeros4096_length]) P.dead h.dk rfl (by show D.l.length ≤ _; omega)
  split
  · have g := h.next
    exact ⟨⟨g.wf.len, g.wf.fit, g.wf.top, g.wf.pos, g.wf.root⟩, ⟨g.dk.len, g.dk.pos, g.dk.top, g.dk.l⟩, g.n, g.l, g.gen, g.sz⟩
  split
  · have g := h.next
    exact ⟨⟨g.wf.len, g.wf.fit, g.wf.top, g.wf.pos, g.wf.root⟩, ⟨g.dk.len, g.dk.pos, g.dk.top, g.dk.l⟩, g.n, g.l, g.gen, g.sz⟩
  split
  · exact h.opened (h.dk.crash o.l) (crash_N h.dk o.l) (Nat.zero_le _)
  split
  · exact h.opened h.dk rfl (by omega)
  · exact h.next
end
end Go.Proofs.Ytdinnkacilgmmaa
namespace Go.Proofs.Ytdinnkacilgmmaa
open Go.RowKit

section
variable {w0 w : World} {x d p r q size N i : Nat} {P : Pgr} {D : Dsk}
theorem step5_all (h : Apart w0 w0.heap.size (bothTs w0.heap.size x d p r q size P D) w) (hI : PlayI N size i P D) (hi : i ≤ 100) (kd n m : Int) (b : List UInt8) (l : List Int) (ab al : Option Addr) (cb cl : Nat) (hb : BytesAt w0 ab b) (hab : ab = none → cb = 0) (hl : IntsAt w0 al l) (hbm : b.length ≤ 140737488351232) (hlm : l.length ≤ 140737488351232) (hbB : ∀ x, ab = some x → b ≠ [] → x.block < w0.heap.size) (hlB : ∀ x, al = some x → l ≠ [] → x.block < w0.heap.size) :
    Calls Try.prog 80 #[.pointer (some ⟨x, 0, none⟩), .agg #[.int .i64 kd, .int .i64 n, .int .i64 m, .slice ab b.length cb, .slice al l.length cl]] w fun e w' => Stepped w0 w0.heap.size x d r size (stepP P D size ⟨kd, n, m, b, l⟩).1 (stepP P D size ⟨kd, n, m, b, l⟩).2 e w' := by
  have hl1 : D.l.length + 1 ≤ 1048576 := by have := hI.l; omega
  have hg : P.root.gen + 1 < 4611686018427387904 := by have := hI.gen; omega
  by_cases h0 : kd = 0 ∨ kd = 1 ∨ kd = 2
  · exact step5_write h hI.wf hl1 kd n m b l ab al cb cl hb hab hl hbm hlm hbB hlB h0
  by_cases h3 : kd = 3
  · exact step5_release h hI.wf hl1 kd n m b l ab al cb cl hb hab hl hbm hlm hbB hlB h3
  by_cases h4 : kd = 4 ∨ kd = 5
  · exact step5_flip h hI.wf hl1 hg kd n m b l ab al cb cl hb hab hl hbm hlm hbB hlB h4
  by_cases h6 : kd = 6
  · exact step5_use h hI.wf hl1 kd n m b l ab al cb cl hb hab hl hbm hlm hbB hlB h6
  by_cases h7 : kd = 7
  · exact step5_fail h hI.wf hl1 kd n m b l ab al cb cl hb hab hl hbm hlm hbB hlB h7
  by_cases h8 : kd = 8
  · exact step5_full h hI.wf hl1 kd n m b l ab al cb cl hb hab hl hbm hlm hbB hlB h8
  by_cases h9 : kd = 9
  · exact step5_crash h hI.wf hl1 hI.sz kd n m b l ab al cb cl hb hab hl hbm hlm hbB hlB h9
  by_cases h10 : kd = 10
  · exact step5_open h hI.wf hl1 hI.sz kd n m b l ab al cb cl hb hab hl hbm hlm hbB hlB h10
  · exact step5_none h hI.wf hl1 kd n m b l ab al cb cl hb hab hl hbm hlm hbB hlB ⟨fun e => h0 (.inl e), fun e => h0 (.inr (.inl e)), fun e => h0 (.inr (.inr e)), h3, fun e => h4 (.inl e), fun e => h4 (.inr e), h6, h7, h8, h9, h10⟩
theorem Apart.open5bad {B : Nat} {Ts : List (Thg B)} {po qo : Option Addr} {z : Int} (h : Apart w0 B Ts w) (h0 : Ts[0]? = some (DiskT B d D)) (h1 : Ts[1]? = some (RDiskT B r D)) (h2 : Ts[2]? = some (BlkT B x (xObj d r (.pointer po) (.pointer qo) z)))
    (a b : Int) (hbad : a < 0 ∨ (D.N : Int) < a ∨ b < 3 ∨ (D.N : Int) - a < b) :
    Calls Try.prog 79 #[.pointer (some ⟨x, 0, none⟩), .int .i64 a, .int .i64 b] w fun e w' => e = .returned (.bool true) ∧ Apart w0 B (Ts.set 2 (BlkT B x (xObj d r (.pointer none) (.pointer none) b))) w' := by
  obtain ⟨F, hd⟩ := h.disk 0 h0
  obtain ⟨F2, hr⟩ := h.rdisk 1 h1
  obtain ⟨G, ⟨hBx, hx, hGe⟩, hup⟩ := h.turn 2 h2
  refine (open5_bad hx hd hr a b hbad).mono ?_
  rintro e w' ⟨he, hx', hm⟩
  exact ⟨he, hup _ _ ⟨hm.mono (fun k _ e => by rw [hGe]; exact e), G, ⟨hBx, hx', hGe⟩, fun _ hk => .inl hk⟩⟩
end

set_option maxHeartbeats 4000000 in
set_option maxRecDepth 100000 in
theorem pplays_walk (fi si : Int) (ai : Option Addr) (li : List UInt8) (capi : Nat) (a : Option Addr) (l : List OpW) (cap : Nat) (w : World) (hai : BytesAt w ai li) (hci : li.length ≤ capi) (hmi : li.length ≤ 140737488351232) (ha : OpWsAt w a l) :
    Calls Try.prog 24 #[.slice ai li.length capi, .int .i64 fi, .int .i64 si, .slice a l.length cap] w fun e w' => e = .returned (.bool true) ∧ Below w.heap.size w w' := by
  have L0 : Apart w w.heap.size [] w := Apart.nil (Below.refl _ _) (Nat.le_refl _)
  have HAI := Lib.hid hai
  go_enter Try.func24, Try.ntmps24
  by_cases hI : imageOk li.length
  · go_wp2_with fail
    refine (load_ok (B := w.heap.size) L0.le ai li capi hai (by omega) hI).mono ?_
    rintro e w4 ⟨vb, rfl, hb4⟩
    obtain ⟨d, rfl, L4⟩ := L0.born hb4
    have hai4 := HAI.out.below L4.bel (fun x e hl => by subst e; exact HAI.out.lt hl)
    clear hb4 L0 hai
    go_wp2_with fail
    refine (rload_ok (B := w.heap.size) L4.le ai li capi hai4 hci hI).mono ?_
    rintro e w5 ⟨vr, rfl, hb5⟩
    obtain ⟨r, rfl, L5⟩ := L4.rborn hb5
    replace L5 : Apart w w.heap.size [DiskT w.heap.size d (Dsk.of li), RDiskT w.heap.size r (Dsk.of li)] w5 := L5
    have hD0 : (Dsk.of li).l.length = 0 := rfl
    have hDw := Dsk.of_wf li hI
    clear hb5 L4 hai4 hI
    generalize Dsk.of li = D at *
    obtain ⟨G, vs, vl, xs, ys, hRV, hGe⟩ := L5.rdisk 1 rfl
    obtain ⟨d0, -⟩ := hRV.cell
    obtain ⟨as1, cs1, es, -, -, -⟩ := owns_shape hRV.safe
    rw [es, hRV.hx] at d0
    have hN := hDw.top
    clear es hRV hGe
    by_cases h20 : (20 : Int) < (D.N : Int)
    · go_wp2_with fail
      refine L5.known5.mono ?_
      rintro e w8 ⟨rfl, L8⟩
      go_wp2
      go_ret
      exact ⟨rfl, L8.bel⟩
    · go_upto_region 8 with fail
      clear d0
      obtain ⟨W6, hW6⟩ : ∃ W6, W6 = w5.alloc (.cells #[.pointer (some ⟨d, 0, none⟩), .pointer none, .pointer (some ⟨r, 0, none⟩), .pointer none, .int .i64 0] 118) := ⟨_, rfl⟩
      rw [← hW6]
      obtain ⟨x, hx⟩ : ∃ x, x = w5.heap.size := ⟨_, rfl⟩
      rw [← hx]
      have L6 : Apart w w.heap.size ([DiskT w.heap.size d D, RDiskT w.heap.size r D] ++ [BlkT w.heap.size x (xObj d r (.pointer none) (.pointer none) 0)]) W6 := by rw [hW6, hx]; exact L5.lay _
      clear hW6 hx L5
      by_cases hv : 0 ≤ fi ∧ fi ≤ (D.N : Int) ∧ 3 ≤ si ∧ si ≤ (D.N : Int) - fi
      · obtain ⟨frm, rfl⟩ : ∃ frm : Nat, fi = (frm : Int) := ⟨fi.toNat, by omega⟩
        obtain ⟨size, rfl⟩ : ∃ size : Nat, si = (size : Int) := ⟨si.toNat, by omega⟩
        have I0 : PlayI D.N size 0 (Pgr.opened frm size D) D := by
          refine ⟨⟨zeros4096_length, ?_, hN, ?_, bestAt_ok (by show size - 2 ≤ 4096; omega) 2⟩, hDw, rfl, by omega, bestAt_gen (size - 2) frm D 2, ?_⟩
          · show frm + 2 + (size - 2) ≤ D.N; omega
          · show 1 ≤ size - 2; omega
          · show size - 2 + 2 = size; omega
        go_wp2_with fail
        refine (L6.open5 rfl rfl rfl (by omega) frm size (by omega) (by omega) (by omega)).mono ?_
        rintro e w7 ⟨rfl, p, q, L7⟩
        clear L6
        generalize Pgr.opened frm size D = P at *
        have hl0 : ∃ NN, NN = D.N := ⟨_, rfl⟩
        obtain ⟨NN, hNN⟩ := hl0
        rw [← hNN] at I0
        clear hNN hN hv h20 hDw hD0
        go_wp2_with fail
        go_loopw [14] (fun v14 wr => ∃ (k : Nat) (P : Pgr) (D : Dsk) (p q : Nat), k ≤ l.length ∧ k ≤ 60 ∧ v14 = .int .i64 (k : Int) ∧ PlayI NN size k P D ∧ Apart w w.heap.size (bothTs w.heap.size x d p r q size P D) wr) (fun v14 _ => 60 - (intOf v14).toNat)
        case atStart => exact ⟨0, P, D, p, q, Nat.zero_le _, Nat.zero_le _, rfl, I0, L7⟩
        case round =>
          obtain ⟨k, P2, D2, p2, q2, hk, hk6, rfl, I, L⟩ := hrel
          clear L7 I0
          obtain ⟨-, -, -, x3, -⟩ := L.bw.cells
          by_cases hlt : (k : Int) < (l.length : Int)
          · by_cases h60 : (k : Int) < 60
            · obtain ⟨bb, off, rfl, ab', cb', al, cl, u0, u1, u2, u3, u4, r1, r2, r3, r4, r5, r6, r7, r8⟩ := ha.here L.bel (k := k) (by omega)
              generalize l[k] = o at *
              obtain ⟨kd, n, m, b, lo⟩ := o
              dsimp only at *
              have KS := step5_all L I (by omega) kd n m b lo ab' al cb' cl r1 r2 r3 r4 r5 r6 r7
              have I2 := I.step (by omega) ⟨kd, n, m, b, lo⟩
              generalize stepP P2 D2 size ⟨kd, n, m, b, lo⟩ = o at *
              obtain ⟨P3, D3⟩ := o
              dsimp only at *
              replace KS := Lib.hid KS
              clear r1 r2 r3 r4 r5 r6 r7 r8 I L
              go_wp2_with fail
              refine KS.out.mono ?_
              rintro e w8 ⟨rfl, p3, q3, L8⟩
              have KA := L8.alike5 I2.wf (by have := I2.l; omega)
              replace KA := Lib.hid KA
              clear L8 KS u0 u1 u2 u3 u4 x3
              go_wp2_with fail
              refine KA.out.mono ?_
              rintro e w9 ⟨rfl, L9⟩
              go_wp2_with fail
              go_roundw
              case rel => exact ⟨k + 1, P3, D3, p3, q3, by omega, by omega, by go_num, I2, L9⟩
              case measure => simp [intOf]; omega
            · go_wp2_with fail
              refine L.known5.mono ?_
              rintro e w8 ⟨rfl, L8⟩
              go_wp2
              go_ret
              exact ⟨rfl, L8.bel⟩
          · go_wp2_with fail
            refine L.known5.mono ?_
            rintro e w8 ⟨rfl, L8⟩
            go_wp2
            go_ret
            exact ⟨rfl, L8.bel⟩
      · go_wp2_with fail
        refine (L6.open5bad rfl rfl rfl fi si (by omega)).mono ?_
        rintro e w7 ⟨rfl, L7⟩
        have hx := L7.blk 2 rfl
        have x3 : w7.cell? ⟨x, 3, none⟩ = some (.pointer none) := cell_of_row w7 x 3 _ 118 (0, 0) hx
        clear L6 hx
        go_wp2_with fail
        go_loopw [14] (fun v14 wr => v14 = .int .i64 0 ∧ w7 = wr) (fun _ _ => 0)
        case atStart => exact ⟨rfl, rfl⟩
        case round =>
          obtain ⟨rfl, rfl⟩ := hrel
          by_cases hlt : (0 : Int) < (l.length : Int)
          · go_wp2_with fail
            refine L7.known5.mono ?_
            rintro e w8 ⟨rfl, L8⟩
            go_wp2
            go_ret
            exact ⟨rfl, L8.bel⟩
          · go_wp2_with fail
            refine L7.known5.mono ?_
            rintro e w8 ⟨rfl, L8⟩
            go_wp2
            go_ret
            exact ⟨rfl, L8.bel⟩
  · go_wp2_with fail
    refine (load_no ai li capi (by omega) hI).mono ?_
    rintro e w' ⟨rfl, rfl⟩
    go_wp2_with fail
    refine (rload_no ai li capi (by omega) hI).mono ?_
    rintro e w' ⟨rfl, rfl⟩
    go_wp2_with fail
    refine L0.known5.mono ?_
    rintro e w8 ⟨rfl, L8⟩
    go_wp2
    go_ret
    exact ⟨rfl, L8.bel⟩

theorem pplays_all (W : World) {v0 : Value} {l0 : List UInt8} (o0 : RdB W v0 l0) {a1 : Int} (_w1 : (Lit.int .i64 a1).wf = true) {a2 : Int} (_w2 : (Lit.int .i64 a2).wf = true) {v1 : Value} {l1 : List OpW} (o1 : RdO5 W v1 l1) :
    Calls Try.prog 24 #[v0, .int .i64 a1, .int .i64 a2, v1] W fun e w' => e = .returned (.bool true) ∧ Below W.heap.size W w' := by
  obtain ⟨a, c, rfl, h1, n1, m1, k1⟩ := o0
  obtain ⟨a2, c2, rfl, h2, m2⟩ := o1
  exact pplays_walk _ _ a l0 c a2 l1 c2 W h1 k1 m1 h2
end Go.Proofs.Ytdinnkacilgmmaa
