/- What RowPagerPlays needs, part 11. -/
import Derived.Test.YtdinnkacilgmmaaPlJ
namespace Go.Proofs.Ytdinnkacilgmmaa
open Go.RowKit

def bothTs (B x d p r q size : Nat) (P : Pgr) (D : Dsk) : List (Thg B) :=
  [DiskT B d D, RDiskT B r D, BlkT B x (xObj d r (.pointer (some ⟨p, 0, none⟩)) (.pointer (some ⟨q, 0, none⟩)) (size : Int)), PT B p d P, RPT B q r P]
section
variable {w0 w : World} {B x d p r q size : Nat} {P : Pgr} {D : Dsk}
theorem Apart.bw (h : Apart w0 B (bothTs B x d p r q size P D) w) : BW w B x d p r q size P D :=
  ⟨h.blk 2 rfl, h.pager 3 rfl, h.rpager 4 rfl, h.disk 0 rfl, h.rdisk 1 rfl⟩
theorem Apart.alike5 (h : Apart w0 B (bothTs B x d p r q size P D) w) (hwf : P.wf D) (hlim : D.l.length ≤ 1048576) :
    Calls Try.prog 81 #[.pointer (some ⟨x, 0, none⟩)] w fun e w' => e = .returned (.bool true) ∧ Apart w0 B (bothTs B x d p r q size P D) w' :=
  (alike5_any h.bw hwf hlim).mono fun _ _ ⟨he, hm⟩ => ⟨he, h.still hm⟩
theorem Apart.open5 {Ts : List (Thg B)} {po qo : Option Addr} {z : Int} (h : Apart w0 B Ts w) (h0 : Ts[0]? = some (DiskT B d D)) (h1 : Ts[1]? = some (RDiskT B r D)) (h2 : Ts[2]? = some (BlkT B x (xObj d r (.pointer po) (.pointer qo) z))) (hlim : D.l.length ≤ 1048576)
    (frm size : Nat) (hf : frm ≤ D.N) (hs3 : 3 ≤ size) (hsz : size ≤ D.N - frm) :
    Calls Try.prog 79 #[.pointer (some ⟨x, 0, none⟩), .int .i64 (frm : Int), .int .i64 (size : Int)] w fun e w' => e = .returned (.bool true) ∧ ∃ p q, Apart w0 B (bothTs B x d p r q size (Pgr.opened frm size D) D) w' := by
  have h3 : Apart w0 B [DiskT B d D, RDiskT B r D, BlkT B x (xObj d r (.pointer po) (.pointer qo) z)] w := h.pick _ id (fun i hi => by
    match i, hi with
    | 0, _ => exact h0.symm
    | 1, _ => exact h1.symm
    | 2, _ => exact h2.symm) (fun i j _ _ hij => hij)
  obtain ⟨F, hd⟩ := h3.disk 0 rfl
  obtain ⟨F2, hr⟩ := h3.rdisk 1 rfl
  obtain ⟨G, hG, hup⟩ := h3.turnNew2 2 rfl
  obtain ⟨hBx, hx, hGe⟩ := hG
  refine (open5_ok hx hd hr hlim frm size hf hs3 hsz).mono ?_
  rintro e w' ⟨he, p, q, vm, vi, vm2, C, hp, hq, hpC, hvC, hwC, hx', hm⟩
  have hxw := lt_of_block hx
  have := hup (BlkT B x (xObj d r (.pointer (some ⟨p, 0, none⟩)) (.pointer (some ⟨q, 0, none⟩)) (size : Int))) (PT B p d (Pgr.opened frm size D)) (RPT B q r (Pgr.opened frm size D)) w' G _ _ (hm.mono (fun k _ e => by rw [hGe]; exact e)) ⟨hBx, hx', hGe⟩ ⟨vm, hp.weaken h.le, rfl⟩ ⟨vi, vm2, hq.weaken (Nat.le_trans h.le hwC), rfl⟩
    (fun k hk => .inl hk) (fun k hk => hk.elim (fun e => e ▸ hp.hq) (fun e => (World.ownsRow.lt hp.mt k e).1)) (fun k hk => Nat.le_trans hwC (hq.lt k hk).1)
    (fun k hk => by
      rw [hGe] at hk
      have hk : k = x := hk
      refine ⟨fun e => ?_, fun e => ?_⟩
      · rcases e with e | e
        · have := hp.hq; omega
        · have := (World.ownsRow.lt hp.mt k e).1; omega
      · have := (hq.lt k e).1; omega)
    (fun k hk e => by
      have := (hq.lt k e).1
      rcases hk with hk | hk
      · omega
      · have := hvC k hk; omega)
  exact ⟨he, p, q, this⟩

/-- what a step makes of them -/
def stepP (P : Pgr) (D : Dsk) (size : Nat) (o : OpW) : Pgr × Dsk :=
  if o.kind = 0 ∨ o.kind = 1 ∨ o.kind = 2 then ((P.write D o.b).2.2.1, (P.write D o.b).2.2.2) else if o.kind = 3 then (P.release o.n, D)
  else if o.kind = 4 ∨ o.kind = 5 then ((P.flip D o.n o.m o.b o.l).2.1, (P.flip D o.n o.m o.b o.l).2.2) else if o.kind = 6 then (P.use o.l, D)
  else if o.kind = 7 then (P, { D with bad := true }) else if o.kind = 8 then (P, { D with full := o.n.tmod 2 != 0 })
  else if o.kind = 9 then (Pgr.opened P.frm size (D.crash o.l), D.crash o.l) else if o.kind = 10 then (Pgr.opened P.frm size D, D) else (P, D)
/-- what a step says -/
def Stepped (w0 : World) (B x d r size : Nat) (P' : Pgr) (D' : Dsk) (e : Ending) (w' : World) : Prop := e = .returned (.bool true) ∧ ∃ p' q', Apart w0 B (bothTs B x d p' r q' size P' D') w'
/-- the cells of the two, and of a step -/
theorem Apart.cells5 {Ts : List (Thg B)} {k : Nat} {o : OpW} {ab al : Option Addr} {cb cl : Nat} (h : Apart w0 B Ts w) (h2 : Ts[2]? = some (BlkT B x (xObj d r (.pointer (some ⟨p, 0, none⟩)) (.pointer (some ⟨q, 0, none⟩)) (size : Int)))) (h5 : Ts[5]? = some (BlkT B k (opWO o ab cb al cl))) :
    w.cell? ⟨x, 0, none⟩ = some (.pointer (some ⟨d, 0, none⟩)) ∧ w.cell? ⟨x, 1, none⟩ = some (.pointer (some ⟨p, 0, none⟩)) ∧ w.cell? ⟨x, 2, none⟩ = some (.pointer (some ⟨r, 0, none⟩)) ∧ w.cell? ⟨x, 3, none⟩ = some (.pointer (some ⟨q, 0, none⟩)) ∧ w.cell? ⟨x, 4, none⟩ = some (.int .i64 (size : Int)) ∧
      w.cell? ⟨k, 1, none⟩ = some (.int .i64 o.n) ∧ w.cell? ⟨k, 2, none⟩ = some (.int .i64 o.m) ∧ w.cell? ⟨k, 3, none⟩ = some (.slice ab o.b.length cb) ∧ w.cell? ⟨k, 4, none⟩ = some (.slice al o.l.length cl) := by
  have hc := fun j => cell_of_row w x j _ 118 (0, 0) (h.blk 2 h2)
  obtain ⟨-, o1, o2, o3, o4⟩ := h.opCells 5 h5
  exact ⟨hc 0, hc 1, hc 2, hc 3, hc 4, o1, o2, o3, o4⟩
end
end Go.Proofs.Ytdinnkacilgmmaa
namespace Go.Proofs.Ytdinnkacilgmmaa
open Go.RowKit

section
variable {w0 w : World} {x d p r q size : Nat} {P : Pgr} {D : Dsk}

set_option maxHeartbeats 4000000 in
set_option maxRecDepth 100000 in
theorem step5_write (h : Apart w0 w0.heap.size (bothTs w0.heap.size x d p r q size P D) w) (hwf : P.wf D) (hlim : D.l.length + 1 ≤ 1048576) (kd n m : Int) (b : List UInt8) (l : List Int) (ab al : Option Addr) (cb cl : Nat) (hb : BytesAt w0 ab b) (hab : ab = none → cb = 0) (hl : IntsAt w0 al l) (_hbm : b.length ≤ 140737488351232) (_hlm : l.length ≤ 140737488351232) (hbB : ∀ x, ab = some x → b ≠ [] → x.block < w0.heap.size) (hlB : ∀ x, al = some x → l ≠ [] → x.block < w0.heap.size) (hk : kd = 0 ∨ kd = 1 ∨ kd = 2) :
    Calls Try.prog 80 #[.pointer (some ⟨x, 0, none⟩), .agg #[.int .i64 kd, .int .i64 n, .int .i64 m, .slice ab b.length cb, .slice al l.length cl]] w fun e w' => Stepped w0 w0.heap.size x d r size (stepP P D size ⟨kd, n, m, b, l⟩).1 (stepP P D size ⟨kd, n, m, b, l⟩).2 e w' := by
  have hst : stepP P D size ⟨kd, n, m, b, l⟩ = ((P.write D b).2.2.1, (P.write D b).2.2.2) := by
    unfold stepP
    rw [if_pos hk]
  obtain ⟨W1, hW1⟩ : ∃ W1, W1 = w.alloc (.cells #[.int .i64 kd, .int .i64 n, .int .i64 m, .slice ab b.length cb, .slice al l.length cl] 102) := ⟨_, rfl⟩
  obtain ⟨k, hk2⟩ : ∃ k, k = w.heap.size := ⟨_, rfl⟩
  have h1 : Apart w0 w0.heap.size (bothTs w0.heap.size x d p r q size P D ++ [BlkT w0.heap.size k (opWO ⟨kd, n, m, b, l⟩ ab cb al cl)]) W1 := by rw [hW1, hk2]; exact h.lay _
  have XC : ∀ (Ts : List (Thg w0.heap.size)) w', Apart w0 w0.heap.size Ts w' → Ts[2]? = some (BlkT w0.heap.size x (xObj d r (.pointer (some ⟨p, 0, none⟩)) (.pointer (some ⟨q, 0, none⟩)) (size : Int))) → Ts[5]? = some (BlkT w0.heap.size k (opWO ⟨kd, n, m, b, l⟩ ab cb al cl)) → _ := fun Ts w' h h2 h5 => h.cells5 h2 h5
  dsimp only at XC
  have HXC := Lib.hid XC
  have HW1 := Lib.hid hW1
  have HK2 := Lib.hid hk2
  have HH := Lib.hid h1
  have BY : ∀ (Ts : List (Thg w0.heap.size)) w', Apart w0 w0.heap.size Ts w' → BytesAt w' ab b := fun Ts w' h => hb.below h.bel hbB
  have IN : ∀ (Ts : List (Thg w0.heap.size)) w', Apart w0 w0.heap.size Ts w' → IntsAt w' al l := fun Ts w' h => hl.mod (Mod.of_below h.bel) (fun x hx hne e => by have := hlB x hx hne; omega)
  have HBY := Lib.hid BY
  have HIN := Lib.hid IN
  have HLB := Lib.hid hlB
  have HBB := Lib.hid hbB
  have y0 := (XC _ _ h1 rfl rfl)
  rw [hst]
  clear hW1 hk2 h1 XC BY IN hb hl hlB hbB hst
  obtain ⟨y0, y1, y2, y3, y4, y5, y6, y7, y8⟩ := y0
  have KA : ∀ (Ts : List (Thg w0.heap.size)) w', Apart w0 w0.heap.size Ts w' → Ts[3]? = some (PT w0.heap.size p d P) → Ts[0]? = some (DiskT w0.heap.size d D) → _ := fun Ts w' h h3 h0 => h.pwrite 3 0 h3 h0 (by decide) hwf hlim ab b b.length cb rfl (HBY.out _ _ h)
  have KB : ∀ (Ts : List (Thg w0.heap.size)) w', Apart w0 w0.heap.size Ts w' → Ts[4]? = some (RPT w0.heap.size q r P) → Ts[1]? = some (RDiskT w0.heap.size r D) → _ := fun Ts w' h h4 h1 => h.rpwrite 4 1 h4 h1 (by decide) hwf hlim ab b b.length cb rfl hab (HBY.out _ _ h)
  generalize P.write D b = o at *
  obtain ⟨ans, code, P', D'⟩ := o
  dsimp only at *
  replace KA := Lib.hid KA
  replace KB := Lib.hid KB
  rcases hk with rfl | rfl | rfl
  · go_enter Try.func80, Try.ntmps80
    go_upto_region 5 with fail
    rw [← HW1.out, ← HK2.out]
    clear y0 y1 y2 y3 y4 y5 y6 y7 y8
    have HD1 := Lib.hid (HH.out.still (Mod.drew _ _))
    refine wp_region_held_drew (S := fun w' => w'.cell? ⟨x, 0, none⟩ = some (.pointer (some ⟨d, 0, none⟩)) ∧ w'.cell? ⟨x, 1, none⟩ = some (.pointer (some ⟨p, 0, none⟩)) ∧ w'.cell? ⟨x, 2, none⟩ = some (.pointer (some ⟨r, 0, none⟩)) ∧ w'.cell? ⟨x, 3, none⟩ = some (.pointer (some ⟨q, 0, none⟩)) ∧ w'.cell? ⟨x, 4, none⟩ = some (.int .i64 (size : Int)) ∧ w'.cell? ⟨k, 1, none⟩ = some (.int .i64 n) ∧ w'.cell? ⟨k, 2, none⟩ = some (.int .i64 m) ∧ w'.cell? ⟨k, 3, none⟩ = some (.slice ab b.length cb) ∧ w'.cell? ⟨k, 4, none⟩ = some (.slice al l.length cl)) (by kernel_rfl) (HXC.out _ _ (HH.out.still (Mod.drew _ _)) rfl rfl) (fun hHeld => ?_)
    refine wpAnyH_take (i := 0) (oi := ⟨some 19, .move (.tmp 0), 115, "law.go:93", #[], none⟩) (v := ?_) rfl (by kernel_rfl) (by kernel_rfl) (by kernel_rfl) (fun _ _ _ h => h) (Or.inl ⟨by rfl, ?_⟩) (by assumption) ?_
    rotate_left
    · (intro w hSw; (try dsimp only at hSw); go_simp; try with_reducible rfl)
    simp only [Act.put, List.setIfInBounds_toArray, List.set_cons_zero, List.set_cons_succ]
    refine wpAnyH_take (i := 1) (oi := ⟨some 20, .nilCheck (.tmp 19), 0, "law.go:93", #[⟨0, .data⟩], none⟩) (v := ?_) rfl (by kernel_rfl) (by kernel_rfl) (by kernel_rfl) (fun _ _ _ h => h) (Or.inl ⟨by rfl, ?_⟩) (by assumption) ?_
    rotate_left
    · (intro w hSw; (try dsimp only at hSw); go_simp; try with_reducible rfl)
    simp only [Act.put, List.setIfInBounds_toArray, List.set_cons_zero, List.set_cons_succ]
    refine wpAnyH_take (i := 2) (oi := ⟨some 21, .fieldAddr 118 (.tmp 20) 1, 0, "law.go:93", #[⟨1, .data⟩], none⟩) (v := ?_) rfl (by kernel_rfl) (by kernel_rfl) (by kernel_rfl) (fun _ _ _ h => h) (Or.inl ⟨by rfl, ?_⟩) (by assumption) ?_
    rotate_left
    · (intro w hSw; (try dsimp only at hSw); go_simp; try with_reducible rfl)
    simp only [Act.put, List.setIfInBounds_toArray, List.set_cons_zero, List.set_cons_succ]
    refine wpAnyH_take (i := 3) (oi := ⟨some 22, .load 93 (.tmp 21), 93, "law.go:93", #[⟨2, .data⟩], none⟩) (v := ?_) rfl (by kernel_rfl) (by kernel_rfl) (by kernel_rfl) (fun _ _ _ h => h) (Or.inl ⟨by rfl, ?_⟩) (by assumption) ?_
    rotate_left
    · (intro w hSw; (try dsimp only at hSw); go_simp; try with_reducible rfl)
    simp only [Act.put, List.setIfInBounds_toArray, List.set_cons_zero, List.set_cons_succ]
    refine wpAnyH_take (i := 4) (oi := ⟨some 23, .fieldAddr 102 (.tmp 3) 3, 0, "law.go:93", #[], none⟩) (v := ?_) rfl (by kernel_rfl) (by kernel_rfl) (by kernel_rfl) (fun _ _ _ h => h) (Or.inl ⟨by rfl, ?_⟩) (by assumption) ?_
    rotate_left
    · (intro w hSw; (try dsimp only at hSw); go_simp; try with_reducible rfl)
    simp only [Act.put, List.setIfInBounds_toArray, List.set_cons_zero, List.set_cons_succ]
    refine wpAnyH_take (i := 5) (oi := ⟨some 24, .load 22 (.tmp 23), 22, "law.go:93", #[⟨4, .data⟩], none⟩) (v := ?_) rfl (by kernel_rfl) (by kernel_rfl) (by kernel_rfl) (fun _ _ _ h => h) (Or.inl ⟨by rfl, ?_⟩) (by assumption) ?_
    rotate_left
    · (intro w hSw; (try dsimp only at hSw); go_simp; try with_reducible rfl)
    simp only [Act.put, List.setIfInBounds_toArray, List.set_cons_zero, List.set_cons_succ]
    refine wpAnyH_ready (rs := [6]) (by kernel_rfl) (by simp) ?_
    refine AllReadyH.cons (o := ⟨some 25, .call { callee := .value (.func 66), args := #[.tmp 22, .tmp 24], argTypes := #[93, 22] }, 98, "law.go:93", #[⟨3, .data⟩, ⟨5, .data⟩], none⟩) rfl (fun K hK => ?_) AllReadyH.nil
    go_simp
    refine (KA.out _ _ HD1.out rfl rfl).mono ?_
    rintro e wa ⟨rfl, hA⟩
    try simp only []
    refine hK.out _ _ (HXC.out _ _ hA rfl rfl) (fun _ => ?_)
    clear hK K
    try simp only [Act.put, List.setIfInBounds_toArray, List.set_cons_zero, List.set_cons_succ]
    refine wpAnyH_take (i := 7) (oi := ⟨some 18, .move (.tmp 25), 98, "law.go:93", #[⟨6, .data⟩], none⟩) (v := ?_) rfl (by kernel_rfl) (by kernel_rfl) (by kernel_rfl) (fun _ _ _ h => h) (Or.inl ⟨by rfl, ?_⟩) (by assumption) ?_
    rotate_left
    · (intro w hSw; (try dsimp only at hSw); go_simp; try with_reducible rfl)
    simp only [Act.put, List.setIfInBounds_toArray, List.set_cons_zero, List.set_cons_succ]
    refine wpAnyH_take (i := 8) (oi := ⟨some 26, .extract (.tmp 18) 0, 3, "law.go:93", #[⟨7, .data⟩], none⟩) (v := ?_) rfl (by kernel_rfl) (by kernel_rfl) (by kernel_rfl) (fun _ _ _ h => h) (Or.inl ⟨by rfl, ?_⟩) (by assumption) ?_
    rotate_left
    · (intro w hSw; (try dsimp only at hSw); go_simp; try with_reducible rfl)
    simp only [Act.put, List.setIfInBounds_toArray, List.set_cons_zero, List.set_cons_succ]
    refine wpAnyH_take (i := 9) (oi := ⟨some 27, .extract (.tmp 18) 1, 32, "law.go:93", #[⟨7, .data⟩, { on := 10, ground := Ground.gcOnly Departure.lateStores }], none⟩) (v := ?_) rfl (by kernel_rfl) (by kernel_rfl) (by kernel_rfl) (fun _ _ _ h => h) (Or.inl ⟨by rfl, ?_⟩) (by assumption) ?_
    rotate_left
    · (intro w hSw; (try dsimp only at hSw); go_simp; try with_reducible rfl)
    simp only [Act.put, List.setIfInBounds_toArray, List.set_cons_zero, List.set_cons_succ]
    refine wpAnyH_take (i := 10) (oi := ⟨some 5, .assign (.tmp 26), 3, "law.go:93", #[⟨8, .data⟩, ⟨6, .chain⟩, ⟨0, .phase⟩, ⟨1, .phase⟩, ⟨2, .phase⟩, ⟨3, .phase⟩, ⟨4, .phase⟩, ⟨5, .phase⟩, ⟨6, .phase⟩, ⟨7, .phase⟩, ⟨8, .phase⟩, { on := 9, ground := Ground.textOnly Departure.lateStores }], none⟩) (v := ?_) rfl (by kernel_rfl) (by kernel_rfl) (by kernel_rfl) (fun _ _ _ h => h) (Or.inl ⟨by rfl, ?_⟩) (by assumption) ?_
    rotate_left
    · (intro w hSw; (try dsimp only at hSw); go_simp; try with_reducible rfl)
    simp only [Act.put, List.setIfInBounds_toArray, List.set_cons_zero, List.set_cons_succ]
    refine wpAnyH_take (i := 11) (oi := ⟨some 6, .assign (.tmp 27), 32, "law.go:93", #[⟨9, .data⟩, ⟨10, .chain⟩, ⟨0, .phase⟩, ⟨1, .phase⟩, ⟨2, .phase⟩, ⟨3, .phase⟩, ⟨4, .phase⟩, ⟨5, .phase⟩, ⟨6, .phase⟩, ⟨7, .phase⟩, ⟨8, .phase⟩, ⟨9, .phase⟩, ⟨10, .phase⟩], none⟩) (v := ?_) rfl (by kernel_rfl) (by kernel_rfl) (by kernel_rfl) (fun _ _ _ h => h) (Or.inl ⟨by rfl, ?_⟩) (by assumption) ?_
    rotate_left
    · (intro w hSw; (try dsimp only at hSw); go_simp; try with_reducible rfl)
    simp only [Act.put, List.setIfInBounds_toArray, List.set_cons_zero, List.set_cons_succ]
    refine wpAnyH_done (by kernel_rfl) ?_ _
    have HA := Lib.hid hA
    clear hA HD1
    go_upto_region 6 with fail
    have HD2 := Lib.hid (HA.out.still (Mod.drew _ _))
    refine wp_region_held_drew (S := fun w' => w'.cell? ⟨x, 0, none⟩ = some (.pointer (some ⟨d, 0, none⟩)) ∧ w'.cell? ⟨x, 1, none⟩ = some (.pointer (some ⟨p, 0, none⟩)) ∧ w'.cell? ⟨x, 2, none⟩ = some (.pointer (some ⟨r, 0, none⟩)) ∧ w'.cell? ⟨x, 3, none⟩ = some (.pointer (some ⟨q, 0, none⟩)) ∧ w'.cell? ⟨x, 4, none⟩ = some (.int .i64 (size : Int)) ∧ w'.cell? ⟨k, 1, none⟩ = some (.int .i64 n) ∧ w'.cell? ⟨k, 2, none⟩ = some (.int .i64 m) ∧ w'.cell? ⟨k, 3, none⟩ = some (.slice ab b.length cb) ∧ w'.cell? ⟨k, 4, none⟩ = some (.slice al l.length cl)) (by kernel_rfl) (HXC.out _ _ (HA.out.still (Mod.drew _ _)) rfl rfl) (fun hHeld => ?_)
    refine wpAnyH_take (i := 0) (oi := ⟨some 29, .move (.tmp 0), 115, "law.go:94", #[], none⟩) (v := ?_) rfl (by kernel_rfl) (by kernel_rfl) (by kernel_rfl) (fun _ _ _ h => h) (Or.inl ⟨by rfl, ?_⟩) (by assumption) ?_
    rotate_left
    · (intro w hSw; (try dsimp only at hSw); go_simp; try with_reducible rfl)
    simp only [Act.put, List.setIfInBounds_toArray, List.set_cons_zero, List.set_cons_succ]
    refine wpAnyH_take (i := 1) (oi := ⟨some 30, .nilCheck (.tmp 29), 0, "law.go:94", #[⟨0, .data⟩], none⟩) (v := ?_) rfl (by kernel_rfl) (by kernel_rfl) (by kernel_rfl) (fun _ _ _ h => h) (Or.inl ⟨by rfl, ?_⟩) (by assumption) ?_
    rotate_left
    · (intro w hSw; (try dsimp only at hSw); go_simp; try with_reducible rfl)
    simp only [Act.put, List.setIfInBounds_toArray, List.set_cons_zero, List.set_cons_succ]
    refine wpAnyH_take (i := 2) (oi := ⟨some 31, .fieldAddr 118 (.tmp 30) 3, 0, "law.go:94", #[⟨1, .data⟩], none⟩) (v := ?_) rfl (by kernel_rfl) (by kernel_rfl) (by kernel_rfl) (fun _ _ _ h => h) (Or.inl ⟨by rfl, ?_⟩) (by assumption) ?_
    rotate_left
    · (intro w hSw; (try dsimp only at hSw); go_simp; try with_reducible rfl)
    simp only [Act.put, List.setIfInBounds_toArray, List.set_cons_zero, List.set_cons_succ]
    refine wpAnyH_take (i := 3) (oi := ⟨some 32, .load 116 (.tmp 31), 116, "law.go:94", #[⟨2, .data⟩], none⟩) (v := ?_) rfl (by kernel_rfl) (by kernel_rfl) (by kernel_rfl) (fun _ _ _ h => h) (Or.inl ⟨by rfl, ?_⟩) (by assumption) ?_
    rotate_left
    · (intro w hSw; (try dsimp only at hSw); go_simp; try with_reducible rfl)
    simp only [Act.put, List.setIfInBounds_toArray, List.set_cons_zero, List.set_cons_succ]
    refine wpAnyH_take (i := 4) (oi := ⟨some 33, .fieldAddr 102 (.tmp 3) 3, 0, "law.go:94", #[], none⟩) (v := ?_) rfl (by kernel_rfl) (by kernel_rfl) (by kernel_rfl) (fun _ _ _ h => h) (Or.inl ⟨by rfl, ?_⟩) (by assumption) ?_
    rotate_left
    · (intro w hSw; (try dsimp only at hSw); go_simp; try with_reducible rfl)
    simp only [Act.put, List.setIfInBounds_toArray, List.set_cons_zero, List.set_cons_succ]
    refine wpAnyH_take (i := 5) (oi := ⟨some 34, .load 22 (.tmp 33), 22, "law.go:94", #[⟨4, .data⟩], none⟩) (v := ?_) rfl (by kernel_rfl) (by kernel_rfl) (by kernel_rfl) (fun _ _ _ h => h) (Or.inl ⟨by rfl, ?_⟩) (by assumption) ?_
    rotate_left
    · (intro w hSw; (try dsimp only at hSw); go_simp; try with_reducible rfl)
    simp only [Act.put, List.setIfInBounds_toArray, List.set_cons_zero, List.set_cons_succ]
    refine wpAnyH_ready (rs := [6]) (by kernel_rfl) (by simp) ?_
    refine AllReadyH.cons (o := ⟨some 35, .call { callee := .value (.func 115), args := #[.tmp 32, .tmp 34], argTypes := #[116, 22] }, 98, "law.go:94", #[⟨3, .data⟩, ⟨5, .data⟩], none⟩) rfl (fun K hK => ?_) AllReadyH.nil
    go_simp
    refine (KB.out _ _ HD2.out rfl rfl).mono ?_
    rintro e wb ⟨rfl, hB⟩
    try simp only []
    refine hK.out _ _ (HXC.out _ _ hB rfl rfl) (fun _ => ?_)
    clear hK K
    try simp only [Act.put, List.setIfInBounds_toArray, List.set_cons_zero, List.set_cons_succ]
    refine wpAnyH_take (i := 7) (oi := ⟨some 28, .move (.tmp 35), 98, "law.go:94", #[⟨6, .data⟩], none⟩) (v := ?_) rfl (by kernel_rfl) (by kernel_rfl) (by kernel_rfl) (fun _ _ _ h => h) (Or.inl ⟨by rfl, ?_⟩) (by assumption) ?_
    rotate_left
    · (intro w hSw; (try dsimp only at hSw); go_simp; try with_reducible rfl)
    simp only [Act.put, List.setIfInBounds_toArray, List.set_cons_zero, List.set_cons_succ]
    refine wpAnyH_take (i := 8) (oi := ⟨some 36, .extract (.tmp 28) 0, 3, "law.go:94", #[⟨7, .data⟩], none⟩) (v := ?_) rfl (by kernel_rfl) (by kernel_rfl) (by kernel_rfl) (fun _ _ _ h => h) (Or.inl ⟨by rfl, ?_⟩) (by assumption) ?_
    rotate_left
    · (intro w hSw; (try dsimp only at hSw); go_simp; try with_reducible rfl)
    simp only [Act.put, List.setIfInBounds_toArray, List.set_cons_zero, List.set_cons_succ]
    refine wpAnyH_take (i := 9) (oi := ⟨some 37, .extract (.tmp 28) 1, 32, "law.go:94", #[⟨7, .data⟩, { on := 10, ground := Ground.gcOnly Departure.lateStores }], none⟩) (v := ?_) rfl (by kernel_rfl) (by kernel_rfl) (by kernel_rfl) (fun _ _ _ h => h) (Or.inl ⟨by rfl, ?_⟩) (by assumption) ?_
    rotate_left
    · (intro w hSw; (try dsimp only at hSw); go_simp; try with_reducible rfl)
    simp only [Act.put, List.setIfInBounds_toArray, List.set_cons_zero, List.set_cons_succ]
    refine wpAnyH_take (i := 10) (oi := ⟨some 7, .assign (.tmp 36), 3, "law.go:94", #[⟨8, .data⟩, ⟨6, .chain⟩, ⟨0, .phase⟩, ⟨1, .phase⟩, ⟨2, .phase⟩, ⟨3, .phase⟩, ⟨4, .phase⟩, ⟨5, .phase⟩, ⟨6, .phase⟩, ⟨7, .phase⟩, ⟨8, .phase⟩, { on := 9, ground := Ground.textOnly Departure.lateStores }], none⟩) (v := ?_) rfl (by kernel_rfl) (by kernel_rfl) (by kernel_rfl) (fun _ _ _ h => h) (Or.inl ⟨by rfl, ?_⟩) (by assumption) ?_
    rotate_left
    · (intro w hSw; (try dsimp only at hSw); go_simp; try with_reducible rfl)
    simp only [Act.put, List.setIfInBounds_toArray, List.set_cons_zero, List.set_cons_succ]
    refine wpAnyH_take (i := 11) (oi := ⟨some 8, .assign (.tmp 37), 32, "law.go:94", #[⟨9, .data⟩, ⟨10, .chain⟩, ⟨0, .phase⟩, ⟨1, .phase⟩, ⟨2, .phase⟩, ⟨3, .phase⟩, ⟨4, .phase⟩, ⟨5, .phase⟩, ⟨6, .phase⟩, ⟨7, .phase⟩, ⟨8, .phase⟩, ⟨9, .phase⟩, ⟨10, .phase⟩], none⟩) (v := ?_) rfl (by kernel_rfl) (by kernel_rfl) (by kernel_rfl) (fun _ _ _ h => h) (Or.inl ⟨by rfl, ?_⟩) (by assumption) ?_
    rotate_left
    · (intro w hSw; (try dsimp only at hSw); go_simp; try with_reducible rfl)
    simp only [Act.put, List.setIfInBounds_toArray, List.set_cons_zero, List.set_cons_succ]
    refine wpAnyH_done (by kernel_rfl) ?_ _
    go_wp2_with fail
    go_ret
    exact ⟨rfl, p, q, hB.take 5⟩
  · go_enter Try.func80, Try.ntmps80
    go_upto_region 5 with fail
    rw [← HW1.out, ← HK2.out]
    clear y0 y1 y2 y3 y4 y5 y6 y7 y8
    have HD1 := Lib.hid (HH.out.still (Mod.drew _ _))
    refine wp_region_held_drew (S := fun w' => w'.cell? ⟨x, 0, none⟩ = some (.pointer (some ⟨d, 0, none⟩)) ∧ w'.cell? ⟨x, 1, none⟩ = some (.pointer (some ⟨p, 0, none⟩)) ∧ w'.cell? ⟨x, 2, none⟩ = some (.pointer (some ⟨r, 0, none⟩)) ∧ w'.cell? ⟨x, 3, none⟩ = some (.pointer (some ⟨q, 0, none⟩)) ∧ w'.cell? ⟨x, 4, none⟩ = some (.int .i64 (size : Int)) ∧ w'.cell? ⟨k, 1, none⟩ = some (.int .i64 n) ∧ w'.cell? ⟨k, 2, none⟩ = some (.int .i64 m) ∧ w'.cell? ⟨k, 3, none⟩ = some (.slice ab b.length cb) ∧ w'.cell? ⟨k, 4, none⟩ = some (.slice al l.length cl)) (by kernel_rfl) (HXC.out _ _ (HH.out.still (Mod.drew _ _)) rfl rfl) (fun hHeld => ?_)
    refine wpAnyH_take (i := 0) (oi := ⟨some 19, .move (.tmp 0), 115, "law.go:93", #[], none⟩) (v := ?_) rfl (by kernel_rfl) (by kernel_rfl) (by kernel_rfl) (fun _ _ _ h => h) (Or.inl ⟨by rfl, ?_⟩) (by assumption) ?_
    rotate_left
    · (intro w hSw; (try dsimp only at hSw); go_simp; try with_reducible rfl)
    simp only [Act.put, List.setIfInBounds_toArray, List.set_cons_zero, List.set_cons_succ]
    refine wpAnyH_take (i := 1) (oi := ⟨some 20, .nilCheck (.tmp 19), 0, "law.go:93", #[⟨0, .data⟩], none⟩) (v := ?_) rfl (by kernel_rfl) (by kernel_rfl) (by kernel_rfl) (fun _ _ _ h => h) (Or.inl ⟨by rfl, ?_⟩) (by assumption) ?_
    rotate_left
    · (intro w hSw; (try dsimp only at hSw); go_simp; try with_reducible rfl)
    simp only [Act.put, List.setIfInBounds_toArray, List.set_cons_zero, List.set_cons_succ]
    refine wpAnyH_take (i := 2) (oi := ⟨some 21, .fieldAddr 118 (.tmp 20) 1, 0, "law.go:93", #[⟨1, .data⟩], none⟩) (v := ?_) rfl (by kernel_rfl) (by kernel_rfl) (by kernel_rfl) (fun _ _ _ h => h) (Or.inl ⟨by rfl, ?_⟩) (by assumption) ?_
    rotate_left
    · (intro w hSw; (try dsimp only at hSw); go_simp; try with_reducible rfl)
    simp only [Act.put, List.setIfInBounds_toArray, List.set_cons_zero, List.set_cons_succ]
    refine wpAnyH_take (i := 3) (oi := ⟨some 22, .load 93 (.tmp 21), 93, "law.go:93", #[⟨2, .data⟩], none⟩) (v := ?_) rfl (by kernel_rfl) (by kernel_rfl) (by kernel_rfl) (fun _ _ _ h => h) (Or.inl ⟨by rfl, ?_⟩) (by assumption) ?_
    rotate_left
    · (intro w hSw; (try dsimp only at hSw); go_simp; try with_reducible rfl)
    simp only [Act.put, List.setIfInBounds_toArray, List.set_cons_zero, List.set_cons_succ]
    refine wpAnyH_take (i := 4) (oi := ⟨some 23, .fieldAddr 102 (.tmp 3) 3, 0, "law.go:93", #[], none⟩) (v := ?_) rfl (by kernel_rfl) (by kernel_rfl) (by kernel_rfl) (fun _ _ _ h => h) (Or.inl ⟨by rfl, ?_⟩) (by assumption) ?_
    rotate_left
    · (intro w hSw; (try dsimp only at hSw); go_simp; try with_reducible rfl)
    simp only [Act.put, List.setIfInBounds_toArray, List.set_cons_zero, List.set_cons_succ]
    refine wpAnyH_take (i := 5) (oi := ⟨some 24, .load 22 (.tmp 23), 22, "law.go:93", #[⟨4, .data⟩], none⟩) (v := ?_) rfl (by kernel_rfl) (by kernel_rfl) (by kernel_rfl) (fun _ _ _ h => h) (Or.inl ⟨by rfl, ?_⟩) (by assumption) ?_
    rotate_left
    · (intro w hSw; (try dsimp only at hSw); go_simp; try with_reducible rfl)
    simp only [Act.put, List.setIfInBounds_toArray, List.set_cons_zero, List.set_cons_succ]
    refine wpAnyH_ready (rs := [6]) (by kernel_rfl) (by simp) ?_
    refine AllReadyH.cons (o := ⟨some 25, .call { callee := .value (.func 66), args := #[.tmp 22, .tmp 24], argTypes := #[93, 22] }, 98, "law.go:93", #[⟨3, .data⟩, ⟨5, .data⟩], none⟩) rfl (fun K hK => ?_) AllReadyH.nil
    go_simp
    refine (KA.out _ _ HD1.out rfl rfl).mono ?_
    rintro e wa ⟨rfl, hA⟩
    try simp only []
    refine hK.out _ _ (HXC.out _ _ hA rfl rfl) (fun _ => ?_)
    clear hK K
    try simp only [Act.put, List.setIfInBounds_toArray, List.set_cons_zero, List.set_cons_succ]
    refine wpAnyH_take (i := 7) (oi := ⟨some 18, .move (.tmp 25), 98, "law.go:93", #[⟨6, .data⟩], none⟩) (v := ?_) rfl (by kernel_rfl) (by kernel_rfl) (by kernel_rfl) (fun _ _ _ h => h) (Or.inl ⟨by rfl, ?_⟩) (by assumption) ?_
    rotate_left
    · (intro w hSw; (try dsimp only at hSw); go_simp; try with_reducible rfl)
    simp only [Act.put, List.setIfInBounds_toArray, List.set_cons_zero, List.set_cons_succ]
    refine wpAnyH_take (i := 8) (oi := ⟨some 26, .extract (.tmp 18) 0, 3, "law.go:93", #[⟨7, .data⟩], none⟩) (v := ?_) rfl (by kernel_rfl) (by kernel_rfl) (by kernel_rfl) (fun _ _ _ h => h) (Or.inl ⟨by rfl, ?_⟩) (by assumption) ?_
    rotate_left
    · (intro w hSw; (try dsimp only at hSw); go_simp; try with_reducible rfl)
    simp only [Act.put, List.setIfInBounds_toArray, List.set_cons_zero, List.set_cons_succ]
    refine wpAnyH_take (i := 9) (oi := ⟨some 27, .extract (.tmp 18) 1, 32, "law.go:93", #[⟨7, .data⟩, { on := 10, ground := Ground.gcOnly Departure.lateStores }], none⟩) (v := ?_) rfl (by kernel_rfl) (by kernel_rfl) (by kernel_rfl) (fun _ _ _ h => h) (Or.inl ⟨by rfl, ?_⟩) (by assumption) ?_
    rotate_left
    · (intro w hSw; (try dsimp only at hSw); go_simp; try with_reducible rfl)
    simp only [Act.put, List.setIfInBounds_toArray, List.set_cons_zero, List.set_cons_succ]
    refine wpAnyH_take (i := 10) (oi := ⟨some 5, .assign (.tmp 26), 3, "law.go:93", #[⟨8, .data⟩, ⟨6, .chain⟩, ⟨0, .phase⟩, ⟨1, .phase⟩, ⟨2, .phase⟩, ⟨3, .phase⟩, ⟨4, .phase⟩, ⟨5, .phase⟩, ⟨6, .phase⟩, ⟨7, .phase⟩, ⟨8, .phase⟩, { on := 9, ground := Ground.textOnly Departure.lateStores }], none⟩) (v := ?_) rfl (by kernel_rfl) (by kernel_rfl) (by kernel_rfl) (fun _ _ _ h => h) (Or.inl ⟨by rfl, ?_⟩) (by assumption) ?_
    rotate_left
    · (intro w hSw; (try dsimp only at hSw); go_simp; try with_reducible rfl)
    simp only [Act.put, List.setIfInBounds_toArray, List.set_cons_zero, List.set_cons_succ]
    refine wpAnyH_take (i := 11) (oi := ⟨some 6, .assign (.tmp 27), 32, "law.go:93", #[⟨9, .data⟩, ⟨10, .chain⟩, ⟨0, .phase⟩, ⟨1, .phase⟩, ⟨2, .phase⟩, ⟨3, .phase⟩, ⟨4, .phase⟩, ⟨5, .phase⟩, ⟨6, .phase⟩, ⟨7, .phase⟩, ⟨8, .phase⟩, ⟨9, .phase⟩, ⟨10, .phase⟩], none⟩) (v := ?_) rfl (by kernel_rfl) (by kernel_rfl) (by kernel_rfl) (fun _ _ _ h => h) (Or.inl ⟨by rfl, ?_⟩) (by assumption) ?_
    rotate_left
    · (intro w hSw; (try dsimp only at hSw); go_simp; try with_reducible rfl)
    simp only [Act.put, List.setIfInBounds_toArray, List.set_cons_zero, List.set_cons_succ]
    refine wpAnyH_done (by kernel_rfl) ?_ _
    have HA := Lib.hid hA
    clear hA HD1
    go_upto_region 6 with fail
    have HD2 := Lib.hid (HA.out.still (Mod.drew _ _))
    refine wp_region_held_drew (S := fun w' => w'.cell? ⟨x, 0, none⟩ = some (.pointer (some ⟨d, 0, none⟩)) ∧ w'.cell? ⟨x, 1, none⟩ = some (.pointer (some ⟨p, 0, none⟩)) ∧ w'.cell? ⟨x, 2, none⟩ = some (.pointer (some ⟨r, 0, none⟩)) ∧ w'.cell? ⟨x, 3, none⟩ = some (.pointer (some ⟨q, 0, none⟩)) ∧ w'.cell? ⟨x, 4, none⟩ = some (.int .i64 (size : Int)) ∧ w'.cell? ⟨k, 1, none⟩ = some (.int .i64 n) ∧ w'.cell? ⟨k, 2, none⟩ = some (.int .i64 m) ∧ w'.cell? ⟨k, 3, none⟩ = some (.slice ab b.length cb) ∧ w'.cell? ⟨k, 4, none⟩ = some (.slice al l.length cl)) (by kernel_rfl) (HXC.out _ _ (HA.out.still (Mod.drew _ _)) rfl rfl) (fun hHeld => ?_)
    refine wpAnyH_take (i := 0) (oi := ⟨some 29, .move (.tmp 0), 115, "law.go:94", #[], none⟩) (v := ?_) rfl (by kernel_rfl) (by kernel_rfl) (by kernel_rfl) (fun _ _ _ h => h) (Or.inl ⟨by rfl, ?_⟩) (by assumption) ?_
    rotate_left
    · (intro w hSw; (try dsimp only at hSw); go_simp; try with_reducible rfl)
    simp only [Act.put, List.setIfInBounds_toArray, List.set_cons_zero, List.set_cons_succ]
    refine wpAnyH_take (i := 1) (oi := ⟨some 30, .nilCheck (.tmp 29), 0, "law.go:94", #[⟨0, .data⟩], none⟩) (v := ?_) rfl (by kernel_rfl) (by kernel_rfl) (by kernel_rfl) (fun _ _ _ h => h) (Or.inl ⟨by rfl, ?_⟩) (by assumption) ?_
    rotate_left
    · (intro w hSw; (try dsimp only at hSw); go_simp; try with_reducible rfl)
    simp only [Act.put, List.setIfInBounds_toArray, List.set_cons_zero, List.set_cons_succ]
    refine wpAnyH_take (i := 2) (oi := ⟨some 31, .fieldAddr 118 (.tmp 30) 3, 0, "law.go:94", #[⟨1, .data⟩], none⟩) (v := ?_) rfl (by kernel_rfl) (by kernel_rfl) (by kernel_rfl) (fun _ _ _ h => h) (Or.inl ⟨by rfl, ?_⟩) (by assumption) ?_
    rotate_left
    · (intro w hSw; (try dsimp only at hSw); go_simp; try with_reducible rfl)
    simp only [Act.put, List.setIfInBounds_toArray, List.set_cons_zero, List.set_cons_succ]
    refine wpAnyH_take (i := 3) (oi := ⟨some 32, .load 116 (.tmp 31), 116, "law.go:94", #[⟨2, .data⟩], none⟩) (v := ?_) rfl (by kernel_rfl) (by kernel_rfl) (by kernel_rfl) (fun _ _ _ h => h) (Or.inl ⟨by rfl, ?_⟩) (by assumption) ?_
    rotate_left
    · (intro w hSw; (try dsimp only at hSw); go_simp; try with_reducible rfl)
    simp only [Act.put, List.setIfInBounds_toArray, List.set_cons_zero, List.set_cons_succ]
    refine wpAnyH_take (i := 4) (oi := ⟨some 33, .fieldAddr 102 (.tmp 3) 3, 0, "law.go:94", #[], none⟩) (v := ?_) rfl (by kernel_rfl) (by kernel_rfl) (by kernel_rfl) (fun _ _ _ h => h) (Or.inl ⟨by rfl, ?_⟩) (by assumption) ?_
    rotate_left
    · (intro w hSw; (try dsimp only at hSw); go_simp; try with_reducible rfl)
    simp only [Act.put, List.setIfInBounds_toArray, List.set_cons_zero, List.set_cons_succ]
    refine wpAnyH_take (i := 5) (oi := ⟨some 34, .load 22 (.tmp 33), 22, "law.go:94", #[⟨4, .data⟩], none⟩) (v := ?_) rfl (by kernel_rfl) (by kernel_rfl) (by kernel_rfl) (fun _ _ _ h => h) (Or.inl ⟨by rfl, ?_⟩) (by assumption) ?_
    rotate_left
    · (intro w hSw; (try dsimp only at hSw); go_simp; try with_reducible rfl)
    simp only [Act.put, List.setIfInBounds_toArray, List.set_cons_zero, List.set_cons_succ]
    refine wpAnyH_ready (rs := [6]) (by kernel_rfl) (by simp) ?_
    refine AllReadyH.cons (o := ⟨some 35, .call { callee := .value (.func 115), args := #[.tmp 32, .tmp 34], argTypes := #[116, 22] }, 98, "law.go:94", #[⟨3, .data⟩, ⟨5, .data⟩], none⟩) rfl (fun K hK => ?_) AllReadyH.nil
    go_simp
    refine (KB.out _ _ HD2.out rfl rfl).mono ?_
    rintro e wb ⟨rfl, hB⟩
    try simp only []
    refine hK.out _ _ (HXC.out _ _ hB rfl rfl) (fun _ => ?_)
    clear hK K
    try simp only [Act.put, List.setIfInBounds_toArray, List.set_cons_zero, List.set_cons_succ]
    refine wpAnyH_take (i := 7) (oi := ⟨some 28, .move (.tmp 35), 98, "law.go:94", #[⟨6, .data⟩], none⟩) (v := ?_) rfl (by kernel_rfl) (by kernel_rfl) (by kernel_rfl) (fun _ _ _ h => h) (Or.inl ⟨by rfl, ?_⟩) (by assumption) ?_
    rotate_left
    · (intro w hSw; (try dsimp only at hSw); go_simp; try with_reducible rfl)
    simp only [Act.put, List.setIfInBounds_toArray, List.set_cons_zero, List.set_cons_succ]
    refine wpAnyH_take (i := 8) (oi := ⟨some 36, .extract (.tmp 28) 0, 3, "law.go:94", #[⟨7, .data⟩], none⟩) (v := ?_) rfl (by kernel_rfl) (by kernel_rfl) (by kernel_rfl) (fun _ _ _ h => h) (Or.inl ⟨by rfl, ?_⟩) (by assumption) ?_
    rotate_left
    · (intro w hSw; (try dsimp only at hSw); go_simp; try with_reducible rfl)
    simp only [Act.put, List.setIfInBounds_toArray, List.set_cons_zero, List.set_cons_succ]
    refine wpAnyH_take (i := 9) (oi := ⟨some 37, .extract (.tmp 28) 1, 32, "law.go:94", #[⟨7, .data⟩, { on := 10, ground := Ground.gcOnly Departure.lateStores }], none⟩) (v := ?_) rfl (by kernel_rfl) (by kernel_rfl) (by kernel_rfl) (fun _ _ _ h => h) (Or.inl ⟨by rfl, ?_⟩) (by assumption) ?_
    rotate_left
    · (intro w hSw; (try dsimp only at hSw); go_simp; try with_reducible rfl)
    simp only [Act.put, List.setIfInBounds_toArray, List.set_cons_zero, List.set_cons_succ]
    refine wpAnyH_take (i := 10) (oi := ⟨some 7, .assign (.tmp 36), 3, "law.go:94", #[⟨8, .data⟩, ⟨6, .chain⟩, ⟨0, .phase⟩, ⟨1, .phase⟩, ⟨2, .phase⟩, ⟨3, .phase⟩, ⟨4, .phase⟩, ⟨5, .phase⟩, ⟨6, .phase⟩, ⟨7, .phase⟩, ⟨8, .phase⟩, { on := 9, ground := Ground.textOnly Departure.lateStores }], none⟩) (v := ?_) rfl (by kernel_rfl) (by kernel_rfl) (by kernel_rfl) (fun _ _ _ h => h) (Or.inl ⟨by rfl, ?_⟩) (by assumption) ?_
    rotate_left
    · (intro w hSw; (try dsimp only at hSw); go_simp; try with_reducible rfl)
    simp only [Act.put, List.setIfInBounds_toArray, List.set_cons_zero, List.set_cons_succ]
    refine wpAnyH_take (i := 11) (oi := ⟨some 8, .assign (.tmp 37), 32, "law.go:94", #[⟨9, .data⟩, ⟨10, .chain⟩, ⟨0, .phase⟩, ⟨1, .phase⟩, ⟨2, .phase⟩, ⟨3, .phase⟩, ⟨4, .phase⟩, ⟨5, .phase⟩, ⟨6, .phase⟩, ⟨7, .phase⟩, ⟨8, .phase⟩, ⟨9, .phase⟩, ⟨10, .phase⟩], none⟩) (v := ?_) rfl (by kernel_rfl) (by kernel_rfl) (by kernel_rfl) (fun _ _ _ h => h) (Or.inl ⟨by rfl, ?_⟩) (by assumption) ?_
    rotate_left
    · (intro w hSw; (try dsimp only at hSw); go_simp; try with_reducible rfl)
    simp only [Act.put, List.setIfInBounds_toArray, List.set_cons_zero, List.set_cons_succ]
    refine wpAnyH_done (by kernel_rfl) ?_ _
    go_wp2_with fail
    go_ret
    exact ⟨rfl, p, q, hB.take 5⟩
  · go_enter Try.func80, Try.ntmps80
    go_upto_region 5 with fail
    rw [← HW1.out, ← HK2.out]
    clear y0 y1 y2 y3 y4 y5 y6 y7 y8
    have HD1 := Lib.hid (HH.out.still (Mod.drew _ _))
    refine wp_region_held_drew (S := fun w' => w'.cell? ⟨x, 0, none⟩ = some (.pointer (some ⟨d, 0, none⟩)) ∧ w'.cell? ⟨x, 1, none⟩ = some (.pointer (some ⟨p, 0, none⟩)) ∧ w'.cell? ⟨x, 2, none⟩ = some (.pointer (some ⟨r, 0, none⟩)) ∧ w'.cell? ⟨x, 3, none⟩ = some (.pointer (some ⟨q, 0, none⟩)) ∧ w'.cell? ⟨x, 4, none⟩ = some (.int .i64 (size : Int)) ∧ w'.cell? ⟨k, 1, none⟩ = some (.int .i64 n) ∧ w'.cell? ⟨k, 2, none⟩ = some (.int .i64 m) ∧ w'.cell? ⟨k, 3, none⟩ = some (.slice ab b.length cb) ∧ w'.cell? ⟨k, 4, none⟩ = some (.slice al l.length cl)) (by kernel_rfl) (HXC.out _ _ (HH.out.still (Mod.drew _ _)) rfl rfl) (fun hHeld => ?_)
    refine wpAnyH_take (i := 0) (oi := ⟨some 19, .move (.tmp 0), 115, "law.go:93", #[], none⟩) (v := ?_) rfl (by kernel_rfl) (by kernel_rfl) (by kernel_rfl) (fun _ _ _ h => h) (Or.inl ⟨by rfl, ?_⟩) (by assumption) ?_
    rotate_left
    · (intro w hSw; (try dsimp only at hSw); go_simp; try with_reducible rfl)
    simp only [Act.put, List.setIfInBounds_toArray, List.set_cons_zero, List.set_cons_succ]
    refine wpAnyH_take (i := 1) (oi := ⟨some 20, .nilCheck (.tmp 19), 0, "law.go:93", #[⟨0, .data⟩], none⟩) (v := ?_) rfl (by kernel_rfl) (by kernel_rfl) (by kernel_rfl) (fun _ _ _ h => h) (Or.inl ⟨by rfl, ?_⟩) (by assumption) ?_
    rotate_left
    · (intro w hSw; (try dsimp only at hSw); go_simp; try with_reducible rfl)
    simp only [Act.put, List.setIfInBounds_toArray, List.set_cons_zero, List.set_cons_succ]
    refine wpAnyH_take (i := 2) (oi := ⟨some 21, .fieldAddr 118 (.tmp 20) 1, 0, "law.go:93", #[⟨1, .data⟩], none⟩) (v := ?_) rfl (by kernel_rfl) (by kernel_rfl) (by kernel_rfl) (fun _ _ _ h => h) (Or.inl ⟨by rfl, ?_⟩) (by assumption) ?_
    rotate_left
    · (intro w hSw; (try dsimp only at hSw); go_simp; try with_reducible rfl)
    simp only [Act.put, List.setIfInBounds_toArray, List.set_cons_zero, List.set_cons_succ]
    refine wpAnyH_take (i := 3) (oi := ⟨some 22, .load 93 (.tmp 21), 93, "law.go:93", #[⟨2, .data⟩], none⟩) (v := ?_) rfl (by kernel_rfl) (by kernel_rfl) (by kernel_rfl) (fun _ _ _ h => h) (Or.inl ⟨by rfl, ?_⟩) (by assumption) ?_
    rotate_left
    · (intro w hSw; (try dsimp only at hSw); go_simp; try with_reducible rfl)
    simp only [Act.put, List.setIfInBounds_toArray, List.set_cons_zero, List.set_cons_succ]
    refine wpAnyH_take (i := 4) (oi := ⟨some 23, .fieldAddr 102 (.tmp 3) 3, 0, "law.go:93", #[], none⟩) (v := ?_) rfl (by kernel_rfl) (by kernel_rfl) (by kernel_rfl) (fun _ _ _ h => h) (Or.inl ⟨by rfl, ?_⟩) (by assumption) ?_
    rotate_left
    · (intro w hSw; (try dsimp only at hSw); go_simp; try with_reducible rfl)
    simp only [Act.put, List.setIfInBounds_toArray, List.set_cons_zero, List.set_cons_succ]
    refine wpAnyH_take (i := 5) (oi := ⟨some 24, .load 22 (.tmp 23), 22, "law.go:93", #[⟨4, .data⟩], none⟩) (v := ?_) rfl (by kernel_rfl) (by kernel_rfl) (by kernel_rfl) (fun _ _ _ h => h) (Or.inl ⟨by rfl, ?_⟩) (by assumption) ?_
    rotate_left
    · (intro w hSw; (try dsimp only at hSw); go_simp; try with_reducible rfl)
    simp only [Act.put, List.setIfInBounds_toArray, List.set_cons_zero, List.set_cons_succ]
    refine wpAnyH_ready (rs := [6]) (by kernel_rfl) (by simp) ?_
    refine AllReadyH.cons (o := ⟨some 25, .call { callee := .value (.func 66), args := #[.tmp 22, .tmp 24], argTypes := #[93, 22] }, 98, "law.go:93", #[⟨3, .data⟩, ⟨5, .data⟩], none⟩) rfl (fun K hK => ?_) AllReadyH.nil
    go_simp
    refine (KA.out _ _ HD1.out rfl rfl).mono ?_
    rintro e wa ⟨rfl, hA⟩
    try simp only []
    refine hK.out _ _ (HXC.out _ _ hA rfl rfl) (fun _ => ?_)
    clear hK K
    try simp only [Act.put, List.setIfInBounds_toArray, List.set_cons_zero, List.set_cons_succ]
    refine wpAnyH_take (i := 7) (oi := ⟨some 18, .move (.tmp 25), 98, "law.go:93", #[⟨6, .data⟩], none⟩) (v := ?_) rfl (by kernel_rfl) (by kernel_rfl) (by kernel_rfl) (fun _ _ _ h => h) (Or.inl ⟨by rfl, ?_⟩) (by assumption) ?_
    rotate_left
    · (intro w hSw; (try dsimp only at hSw); go_simp; try with_reducible rfl)
    simp only [Act.put, List.setIfInBounds_toArray, List.set_cons_zero, List.set_cons_succ]
    refine wpAnyH_take (i := 8) (oi := ⟨some 26, .extract (.tmp 18) 0, 3, "law.go:93", #[⟨7, .data⟩], none⟩) (v := ?_) rfl (by kernel_rfl) (by kernel_rfl) (by kernel_rfl) (fun _ _ _ h => h) (Or.inl ⟨by rfl, ?_⟩) (by assumption) ?_
    rotate_left
    · (intro w hSw; (try dsimp only at hSw); go_simp; try with_reducible rfl)
    simp only [Act.put, List.setIfInBounds_toArray, List.set_cons_zero, List.set_cons_succ]
    refine wpAnyH_take (i := 9) (oi := ⟨some 27, .extract (.tmp 18) 1, 32, "law.go:93", #[⟨7, .data⟩, { on := 10, ground := Ground.gcOnly Departure.lateStores }], none⟩) (v := ?_) rfl (by kernel_rfl) (by kernel_rfl) (by kernel_rfl) (fun _ _ _ h => h) (Or.inl ⟨by rfl, ?_⟩) (by assumption) ?_
    rotate_left
    · (intro w hSw; (try dsimp only at hSw); go_simp; try with_reducible rfl)
    simp only [Act.put, List.setIfInBounds_toArray, List.set_cons_zero, List.set_cons_succ]
    refine wpAnyH_take (i := 10) (oi := ⟨some 5, .assign (.tmp 26), 3, "law.go:93", #[⟨8, .data⟩, ⟨6, .chain⟩, ⟨0, .phase⟩, ⟨1, .phase⟩, ⟨2, .phase⟩, ⟨3, .phase⟩, ⟨4, .phase⟩, ⟨5, .phase⟩, ⟨6, .phase⟩, ⟨7, .phase⟩, ⟨8, .phase⟩, { on := 9, ground := Ground.textOnly Departure.lateStores }], none⟩) (v := ?_) rfl (by kernel_rfl) (by kernel_rfl) (by kernel_rfl) (fun _ _ _ h => h) (Or.inl ⟨by rfl, ?_⟩) (by assumption) ?_
    rotate_left
    · (intro w hSw; (try dsimp only at hSw); go_simp; try with_reducible rfl)
    simp only [Act.put, List.setIfInBounds_toArray, List.set_cons_zero, List.set_cons_succ]
    refine wpAnyH_take (i := 11) (oi := ⟨some 6, .assign (.tmp 27), 32, "law.go:93", #[⟨9, .data⟩, ⟨10, .chain⟩, ⟨0, .phase⟩, ⟨1, .phase⟩, ⟨2, .phase⟩, ⟨3, .phase⟩, ⟨4, .phase⟩, ⟨5, .phase⟩, ⟨6, .phase⟩, ⟨7, .phase⟩, ⟨8, .phase⟩, ⟨9, .phase⟩, ⟨10, .phase⟩], none⟩) (v := ?_) rfl (by kernel_rfl) (by kernel_rfl) (by kernel_rfl) (fun _ _ _ h => h) (Or.inl ⟨by rfl, ?_⟩) (by assumption) ?_
    rotate_left
    · (intro w hSw; (try dsimp only at hSw); go_simp; try with_reducible rfl)
    simp only [Act.put, List.setIfInBounds_toArray, List.set_cons_zero, List.set_cons_succ]
    refine wpAnyH_done (by kernel_rfl) ?_ _
    have HA := Lib.hid hA
    clear hA HD1
    go_upto_region 6 with fail
    have HD2 := Lib.hid (HA.out.still (Mod.drew _ _))
    refine wp_region_held_drew (S := fun w' => w'.cell? ⟨x, 0, none⟩ = some (.pointer (some ⟨d, 0, none⟩)) ∧ w'.cell? ⟨x, 1, none⟩ = some (.pointer (some ⟨p, 0, none⟩)) ∧ w'.cell? ⟨x, 2, none⟩ = some (.pointer (some ⟨r, 0, none⟩)) ∧ w'.cell? ⟨x, 3, none⟩ = some (.pointer (some ⟨q, 0, none⟩)) ∧ w'.cell? ⟨x, 4, none⟩ = some (.int .i64 (size : Int)) ∧ w'.cell? ⟨k, 1, none⟩ = some (.int .i64 n) ∧ w'.cell? ⟨k, 2, none⟩ = some (.int .i64 m) ∧ w'.cell? ⟨k, 3, none⟩ = some (.slice ab b.length cb) ∧ w'.cell? ⟨k, 4, none⟩ = some (.slice al l.length cl)) (by kernel_rfl) (HXC.out _ _ (HA.out.still (Mod.drew _ _)) rfl rfl) (fun hHeld => ?_)
    refine wpAnyH_take (i := 0) (oi := ⟨some 29, .move (.tmp 0), 115, "law.go:94", #[], none⟩) (v := ?_) rfl (by kernel_rfl) (by kernel_rfl) (by kernel_rfl) (fun _ _ _ h => h) (Or.inl ⟨by rfl, ?_⟩) (by assumption) ?_
    rotate_left
    · (intro w hSw; (try dsimp only at hSw); go_simp; try with_reducible rfl)
    simp only [Act.put, List.setIfInBounds_toArray, List.set_cons_zero, List.set_cons_succ]
    refine wpAnyH_take (i := 1) (oi := ⟨some 30, .nilCheck (.tmp 29), 0, "law.go:94", #[⟨0, .data⟩], none⟩) (v := ?_) rfl (by kernel_rfl) (by kernel_rfl) (by kernel_rfl) (fun _ _ _ h => h) (Or.inl ⟨by rfl, ?_⟩) (by assumption) ?_
    rotate_left
    · (intro w hSw; (try dsimp only at hSw); go_simp; try with_reducible rfl)
    simp only [Act.put, List.setIfInBounds_toArray, List.set_cons_zero, List.set_cons_succ]
    refine wpAnyH_take (i := 2) (oi := ⟨some 31, .fieldAddr 118 (.tmp 30) 3, 0, "law.go:94", #[⟨1, .data⟩], none⟩) (v := ?_) rfl (by kernel_rfl) (by kernel_rfl) (by kernel_rfl) (fun _ _ _ h => h) (Or.inl ⟨by rfl, ?_⟩) (by assumption) ?_
    rotate_left
    · (intro w hSw; (try dsimp only at hSw); go_simp; try with_reducible rfl)
    simp only [Act.put, List.setIfInBounds_toArray, List.set_cons_zero, List.set_cons_succ]
    refine wpAnyH_take (i := 3) (oi := ⟨some 32, .load 116 (.tmp 31), 116, "law.go:94", #[⟨2, .data⟩], none⟩) (v := ?_) rfl (by kernel_rfl) (by kernel_rfl) (by kernel_rfl) (fun _ _ _ h => h) (Or.inl ⟨by rfl, ?_⟩) (by assumption) ?_
    rotate_left
    · (intro w hSw; (try dsimp only at hSw); go_simp; try with_reducible rfl)
    simp only [Act.put, List.setIfInBounds_toArray, List.set_cons_zero, List.set_cons_succ]
    refine wpAnyH_take (i := 4) (oi := ⟨some 33, .fieldAddr 102 (.tmp 3) 3, 0, "law.go:94", #[], none⟩) (v := ?_) rfl (by kernel_rfl) (by kernel_rfl) (by kernel_rfl) (fun _ _ _ h => h) (Or.inl ⟨by rfl, ?_⟩) (by assumption) ?_
    rotate_left
    · (intro w hSw; (try dsimp only at hSw); go_simp; try with_reducible rfl)
    simp only [Act.put, List.setIfInBounds_toArray, List.set_cons_zero, List.set_cons_succ]
    refine wpAnyH_take (i := 5) (oi := ⟨some 34, .load 22 (.tmp 33), 22, "law.go:94", #[⟨4, .data⟩], none⟩) (v := ?_) rfl (by kernel_rfl) (by kernel_rfl) (by kernel_rfl) (fun _ _ _ h => h) (Or.inl ⟨by rfl, ?_⟩) (by assumption) ?_
    rotate_left
    · (intro w hSw; (try dsimp only at hSw); go_simp; try with_reducible rfl)
    simp only [Act.put, List.setIfInBounds_toArray, List.set_cons_zero, List.set_cons_succ]
    refine wpAnyH_ready (rs := [6]) (by kernel_rfl) (by simp) ?_
    refine AllReadyH.cons (o := ⟨some 35, .call { callee := .value (.func 115), args := #[.tmp 32, .tmp 34], argTypes := #[116, 22] }, 98, "law.go:94", #[⟨3, .data⟩, ⟨5, .data⟩], none⟩) rfl (fun K hK => ?_) AllReadyH.nil
    go_simp
    refine (KB.out _ _ HD2.out rfl rfl).mono ?_
    rintro e wb ⟨rfl, hB⟩
    try simp only []
    refine hK.out _ _ (HXC.out _ _ hB rfl rfl) (fun _ => ?_)
    clear hK K
    try simp only [Act.put, List.setIfInBounds_toArray, List.set_cons_zero, List.set_cons_succ]
    refine wpAnyH_take (i := 7) (oi := ⟨some 28, .move (.tmp 35), 98, "law.go:94", #[⟨6, .data⟩], none⟩) (v := ?_) rfl (by kernel_rfl) (by kernel_rfl) (by kernel_rfl) (fun _ _ _ h => h) (Or.inl ⟨by rfl, ?_⟩) (by assumption) ?_
    rotate_left
    · (intro w hSw; (try dsimp only at hSw); go_simp; try with_reducible rfl)
    simp only [Act.put, List.setIfInBounds_toArray, List.set_cons_zero, List.set_cons_succ]
    refine wpAnyH_take (i := 8) (oi := ⟨some 36, .extract (.tmp 28) 0, 3, "law.go:94", #[⟨7, .data⟩], none⟩) (v := ?_) rfl (by kernel_rfl) (by kernel_rfl) (by kernel_rfl) (fun _ _ _ h => h) (Or.inl ⟨by rfl, ?_⟩) (by assumption) ?_
    rotate_left
    · (intro w hSw; (try dsimp only at hSw); go_simp; try with_reducible rfl)
    simp only [Act.put, List.setIfInBounds_toArray, List.set_cons_zero, List.set_cons_succ]
    refine wpAnyH_take (i := 9) (oi := ⟨some 37, .extract (.tmp 28) 1, 32, "law.go:94", #[⟨7, .data⟩, { on := 10, ground := Ground.gcOnly Departure.lateStores }], none⟩) (v := ?_) rfl (by kernel_rfl) (by kernel_rfl) (by kernel_rfl) (fun _ _ _ h => h) (Or.inl ⟨by rfl, ?_⟩) (by assumption) ?_
    rotate_left
    · (intro w hSw; (try dsimp only at hSw); go_simp; try with_reducible rfl)
    simp only [Act.put, List.setIfInBounds_toArray, List.set_cons_zero, List.set_cons_succ]
    refine wpAnyH_take (i := 10) (oi := ⟨some 7, .assign (.tmp 36), 3, "law.go:94", #[⟨8, .data⟩, ⟨6, .chain⟩, ⟨0, .phase⟩, ⟨1, .phase⟩, ⟨2, .phase⟩, ⟨3, .phase⟩, ⟨4, .phase⟩, ⟨5, .phase⟩, ⟨6, .phase⟩, ⟨7, .phase⟩, ⟨8, .phase⟩, { on := 9, ground := Ground.textOnly Departure.lateStores }], none⟩) (v := ?_) rfl (by kernel_rfl) (by kernel_rfl) (by kernel_rfl) (fun _ _ _ h => h) (Or.inl ⟨by rfl, ?_⟩) (by assumption) ?_
    rotate_left
    · (intro w hSw; (try dsimp only at hSw); go_simp; try with_reducible rfl)
    simp only [Act.put, List.setIfInBounds_toArray, List.set_cons_zero, List.set_cons_succ]
    refine wpAnyH_take (i := 11) (oi := ⟨some 8, .assign (.tmp 37), 32, "law.go:94", #[⟨9, .data⟩, ⟨10, .chain⟩, ⟨0, .phase⟩, ⟨1, .phase⟩, ⟨2, .phase⟩, ⟨3, .phase⟩, ⟨4, .phase⟩, ⟨5, .phase⟩, ⟨6, .phase⟩, ⟨7, .phase⟩, ⟨8, .phase⟩, ⟨9, .phase⟩, ⟨10, .phase⟩], none⟩) (v := ?_) rfl (by kernel_rfl) (by kernel_rfl) (by kernel_rfl) (fun _ _ _ h => h) (Or.inl ⟨by rfl, ?_⟩) (by assumption) ?_
    rotate_left
    · (intro w hSw; (try dsimp only at hSw); go_simp; try with_reducible rfl)
    simp only [Act.put, List.setIfInBounds_toArray, List.set_cons_zero, List.set_cons_succ]
    refine wpAnyH_done (by kernel_rfl) ?_ _
    go_wp2_with fail
    go_ret
    exact ⟨rfl, p, q, hB.take 5⟩

set_option maxHeartbeats 4000000 in
set_option maxRecDepth 100000 in
theorem step5_release (h : Apart w0 w0.heap.size (bothTs w0.heap.size x d p r q size P D) w) (hwf : P.wf D) (_hlim : D.l.length + 1 ≤ 1048576) (kd n m : Int) (b : List UInt8) (l : List Int) (ab al : Option Addr) (cb cl : Nat) (hb : BytesAt w0 ab b) (_hab : ab = none → cb = 0) (hl : IntsAt w0 al l) (_hbm : b.length ≤ 140737488351232) (_hlm : l.length ≤ 140737488351232) (hbB : ∀ x, ab = some x → b ≠ [] → x.block < w0.heap.size) (hlB : ∀ x, al = some x → l ≠ [] → x.block < w0.heap.size) (hk : kd = 3) :
    Calls Try.prog 80 #[.pointer (some ⟨x, 0, none⟩), .agg #[.int .i64 kd, .int .i64 n, .int .i64 m, .slice ab b.length cb, .slice al l.length cl]] w fun e w' => Stepped w0 w0.heap.size x d r size (stepP P D size ⟨kd, n, m, b, l⟩).1 (stepP P D size ⟨kd, n, m, b, l⟩).2 e w' := by
  have hst : stepP P D size ⟨kd, n, m, b, l⟩ = (P.release n, D) := by
    unfold stepP
    simp [hk]
  obtain ⟨W1, hW1⟩ : ∃ W1, W1 = w.alloc (.cells #[.int .i64 kd, .int .i64 n, .int .i64 m, .slice ab b.length cb, .slice al l.length cl] 102) := ⟨_, rfl⟩
  obtain ⟨k, hk2⟩ : ∃ k, k = w.heap.size := ⟨_, rfl⟩
  have h1 : Apart w0 w0.heap.size (bothTs w0.heap.size x d p r q size P D ++ [BlkT w0.heap.size k (opWO ⟨kd, n, m, b, l⟩ ab cb al cl)]) W1 := by rw [hW1, hk2]; exact h.lay _
  have XC : ∀ (Ts : List (Thg w0.heap.size)) w', Apart w0 w0.heap.size Ts w' → Ts[2]? = some (BlkT w0.heap.size x (xObj d r (.pointer (some ⟨p, 0, none⟩)) (.pointer (some ⟨q, 0, none⟩)) (size : Int))) → Ts[5]? = some (BlkT w0.heap.size k (opWO ⟨kd, n, m, b, l⟩ ab cb al cl)) → _ := fun Ts w' h h2 h5 => h.cells5 h2 h5
  dsimp only at XC
  have HXC := Lib.hid XC
  have HW1 := Lib.hid hW1
  have HK2 := Lib.hid hk2
  have HH := Lib.hid h1
  have BY : ∀ (Ts : List (Thg w0.heap.size)) w', Apart w0 w0.heap.size Ts w' → BytesAt w' ab b := fun Ts w' h => hb.below h.bel hbB
  have IN : ∀ (Ts : List (Thg w0.heap.size)) w', Apart w0 w0.heap.size Ts w' → IntsAt w' al l := fun Ts w' h => hl.mod (Mod.of_below h.bel) (fun x hx hne e => by have := hlB x hx hne; omega)
  have HBY := Lib.hid BY
  have HIN := Lib.hid IN
  have HLB := Lib.hid hlB
  have HBB := Lib.hid hbB
  have y0 := (XC _ _ h1 rfl rfl)
  rw [hst]
  clear hW1 hk2 h1 XC BY IN hb hl hlB hbB hst
  obtain ⟨y0, y1, y2, y3, y4, y5, y6, y7, y8⟩ := y0
  have KA : ∀ (Ts : List (Thg w0.heap.size)) w', Apart w0 w0.heap.size Ts w' → Ts[3]? = some (PT w0.heap.size p d P) → Ts[3]? = Ts[3]? → _ := fun Ts w' h h3 _ => h.prelease 3 h3 (by have := hwf.fit; have := hwf.top; omega) n
  have KB : ∀ (Ts : List (Thg w0.heap.size)) w', Apart w0 w0.heap.size Ts w' → Ts[4]? = some (RPT w0.heap.size q r P) → Ts[4]? = Ts[4]? → _ := fun Ts w' h h4 _ => h.rprelease 4 h4 n
  replace KA := Lib.hid KA
  replace KB := Lib.hid KB
  subst hk
  go_enter Try.func80, Try.ntmps80
  go_upto_region 9 with fail
  rw [← HW1.out, ← HK2.out]
  clear y0 y1 y2 y3 y4 y5 y6 y7 y8
  have HD1 := Lib.hid (HH.out.still (Mod.drew _ _))
  refine wp_region_held_drew (S := fun w' => w'.cell? ⟨x, 0, none⟩ = some (.pointer (some ⟨d, 0, none⟩)) ∧ w'.cell? ⟨x, 1, none⟩ = some (.pointer (some ⟨p, 0, none⟩)) ∧ w'.cell? ⟨x, 2, none⟩ = some (.pointer (some ⟨r, 0, none⟩)) ∧ w'.cell? ⟨x, 3, none⟩ = some (.pointer (some ⟨q, 0, none⟩)) ∧ w'.cell? ⟨x, 4, none⟩ = some (.int .i64 (size : Int)) ∧ w'.cell? ⟨k, 1, none⟩ = some (.int .i64 n) ∧ w'.cell? ⟨k, 2, none⟩ = some (.int .i64 m) ∧ w'.cell? ⟨k, 3, none⟩ = some (.slice ab b.length cb) ∧ w'.cell? ⟨k, 4, none⟩ = some (.slice al l.length cl)) (by kernel_rfl) (HXC.out _ _ (HH.out.still (Mod.drew _ _)) rfl rfl) (fun hHeld => ?_)
  refine wpAnyH_take (i := 0) (oi := ⟨some 48, .move (.tmp 0), 115, "law.go:97", #[], none⟩) (v := ?_) rfl (by kernel_rfl) (by kernel_rfl) (by kernel_rfl) (fun _ _ _ h => h) (Or.inl ⟨by rfl, ?_⟩) (by assumption) ?_
  rotate_left
  · (intro w hSw; (try dsimp only at hSw); go_simp; try with_reducible rfl)
  simp only [Act.put, List.setIfInBounds_toArray, List.set_cons_zero, List.set_cons_succ]
  refine wpAnyH_take (i := 1) (oi := ⟨some 49, .nilCheck (.tmp 48), 0, "law.go:97", #[⟨0, .data⟩], none⟩) (v := ?_) rfl (by kernel_rfl) (by kernel_rfl) (by kernel_rfl) (fun _ _ _ h => h) (Or.inl ⟨by rfl, ?_⟩) (by assumption) ?_
  rotate_left
  · (intro w hSw; (try dsimp only at hSw); go_simp; try with_reducible rfl)
  simp only [Act.put, List.setIfInBounds_toArray, List.set_cons_zero, List.set_cons_succ]
  refine wpAnyH_take (i := 2) (oi := ⟨some 50, .fieldAddr 118 (.tmp 49) 1, 0, "law.go:97", #[⟨1, .data⟩], none⟩) (v := ?_) rfl (by kernel_rfl) (by kernel_rfl) (by kernel_rfl) (fun _ _ _ h => h) (Or.inl ⟨by rfl, ?_⟩) (by assumption) ?_
  rotate_left
  · (intro w hSw; (try dsimp only at hSw); go_simp; try with_reducible rfl)
  simp only [Act.put, List.setIfInBounds_toArray, List.set_cons_zero, List.set_cons_succ]
  refine wpAnyH_take (i := 3) (oi := ⟨some 51, .load 93 (.tmp 50), 93, "law.go:97", #[⟨2, .data⟩], none⟩) (v := ?_) rfl (by kernel_rfl) (by kernel_rfl) (by kernel_rfl) (fun _ _ _ h => h) (Or.inl ⟨by rfl, ?_⟩) (by assumption) ?_
  rotate_left
  · (intro w hSw; (try dsimp only at hSw); go_simp; try with_reducible rfl)
  simp only [Act.put, List.setIfInBounds_toArray, List.set_cons_zero, List.set_cons_succ]
  refine wpAnyH_take (i := 4) (oi := ⟨some 52, .fieldAddr 102 (.tmp 3) 1, 0, "law.go:97", #[], none⟩) (v := ?_) rfl (by kernel_rfl) (by kernel_rfl) (by kernel_rfl) (fun _ _ _ h => h) (Or.inl ⟨by rfl, ?_⟩) (by assumption) ?_
  rotate_left
  · (intro w hSw; (try dsimp only at hSw); go_simp; try with_reducible rfl)
  simp only [Act.put, List.setIfInBounds_toArray, List.set_cons_zero, List.set_cons_succ]
  refine wpAnyH_take (i := 5) (oi := ⟨some 53, .load 3 (.tmp 52), 3, "law.go:97", #[⟨4, .data⟩], none⟩) (v := ?_) rfl (by kernel_rfl) (by kernel_rfl) (by kernel_rfl) (fun _ _ _ h => h) (Or.inl ⟨by rfl, ?_⟩) (by assumption) ?_
  rotate_left
  · (intro w hSw; (try dsimp only at hSw); go_simp; try with_reducible rfl)
  simp only [Act.put, List.setIfInBounds_toArray, List.set_cons_zero, List.set_cons_succ]
  refine wpAnyH_take (i := 7) (oi := ⟨some 55, .move (.tmp 0), 115, "law.go:97", #[], none⟩) (v := ?_) rfl (by kernel_rfl) (by kernel_rfl) (by kernel_rfl) (fun _ _ _ h => h) (Or.inl ⟨by rfl, ?_⟩) (by assumption) ?_
  rotate_left
  · (intro w hSw; (try dsimp only at hSw); go_simp; try with_reducible rfl)
  simp only [Act.put, List.setIfInBounds_toArray, List.set_cons_zero, List.set_cons_succ]
  refine wpAnyH_take (i := 8) (oi := ⟨some 56, .nilCheck (.tmp 55), 0, "law.go:97", #[⟨7, .data⟩], none⟩) (v := ?_) rfl (by kernel_rfl) (by kernel_rfl) (by kernel_rfl) (fun _ _ _ h => h) (Or.inl ⟨by rfl, ?_⟩) (by assumption) ?_
  rotate_left
  · (intro w hSw; (try dsimp only at hSw); go_simp; try with_reducible rfl)
  simp only [Act.put, List.setIfInBounds_toArray, List.set_cons_zero, List.set_cons_succ]
  refine wpAnyH_take (i := 9) (oi := ⟨some 57, .fieldAddr 118 (.tmp 56) 3, 0, "law.go:97", #[⟨8, .data⟩], none⟩) (v := ?_) rfl (by kernel_rfl) (by kernel_rfl) (by kernel_rfl) (fun _ _ _ h => h) (Or.inl ⟨by rfl, ?_⟩) (by assumption) ?_
  rotate_left
  · (intro w hSw; (try dsimp only at hSw); go_simp; try with_reducible rfl)
  simp only [Act.put, List.setIfInBounds_toArray, List.set_cons_zero, List.set_cons_succ]
  refine wpAnyH_take (i := 10) (oi := ⟨some 58, .load 116 (.tmp 57), 116, "law.go:97", #[⟨9, .data⟩], none⟩) (v := ?_) rfl (by kernel_rfl) (by kernel_rfl) (by kernel_rfl) (fun _ _ _ h => h) (Or.inl ⟨by rfl, ?_⟩) (by assumption) ?_
  rotate_left
  · (intro w hSw; (try dsimp only at hSw); go_simp; try with_reducible rfl)
  simp only [Act.put, List.setIfInBounds_toArray, List.set_cons_zero, List.set_cons_succ]
  refine wpAnyH_take (i := 11) (oi := ⟨some 59, .fieldAddr 102 (.tmp 3) 1, 0, "law.go:97", #[], none⟩) (v := ?_) rfl (by kernel_rfl) (by kernel_rfl) (by kernel_rfl) (fun _ _ _ h => h) (Or.inl ⟨by rfl, ?_⟩) (by assumption) ?_
  rotate_left
  · (intro w hSw; (try dsimp only at hSw); go_simp; try with_reducible rfl)
  simp only [Act.put, List.setIfInBounds_toArray, List.set_cons_zero, List.set_cons_succ]
  refine wpAnyH_take (i := 12) (oi := ⟨some 60, .load 3 (.tmp 59), 3, "law.go:97", #[⟨11, .data⟩], none⟩) (v := ?_) rfl (by kernel_rfl) (by kernel_rfl) (by kernel_rfl) (fun _ _ _ h => h) (Or.inl ⟨by rfl, ?_⟩) (by assumption) ?_
  rotate_left
  · (intro w hSw; (try dsimp only at hSw); go_simp; try with_reducible rfl)
  simp only [Act.put, List.setIfInBounds_toArray, List.set_cons_zero, List.set_cons_succ]
  refine wpAnyH_ready (rs := [6]) (by kernel_rfl) (by simp) ?_
  refine AllReadyH.cons (o := ⟨some 54, .call { callee := .value (.func 69), args := #[.tmp 51, .tmp 53], argTypes := #[93, 3] }, 32, "law.go:97", #[⟨3, .data⟩, ⟨5, .data⟩], none⟩) rfl (fun K hK => ?_) AllReadyH.nil
  go_simp
  refine (KA.out _ _ HD1.out rfl rfl).mono ?_
  rintro e wa ⟨rfl, hA⟩
  try simp only []
  refine hK.out _ _ (HXC.out _ _ hA rfl rfl) (fun _ => ?_)
  clear hK K
  try simp only [Act.put, List.setIfInBounds_toArray, List.set_cons_zero, List.set_cons_succ]
  refine wpAnyH_ready (rs := [13]) (by kernel_rfl) (by simp) ?_
  refine AllReadyH.cons (o := ⟨some 61, .call { callee := .value (.func 116), args := #[.tmp 58, .tmp 60], argTypes := #[116, 3] }, 32, "law.go:97", #[⟨10, .data⟩, ⟨12, .data⟩, ⟨6, .chain⟩], none⟩) rfl (fun K hK => ?_) AllReadyH.nil
  go_simp
  refine (KB.out _ _ hA rfl rfl).mono ?_
  rintro e wb ⟨rfl, hB⟩
  try simp only []
  refine hK.out _ _ (HXC.out _ _ hB rfl rfl) (fun _ => ?_)
  clear hK K
  try simp only [Act.put, List.setIfInBounds_toArray, List.set_cons_zero, List.set_cons_succ]
  refine wpAnyH_take (i := 14) (oi := ⟨some 62, .binOp .eql 32 (.tmp 54) (.tmp 61) 32, 4, "law.go:97", #[⟨6, .data⟩, ⟨13, .data⟩], none⟩) (v := ?_) rfl (by kernel_rfl) (by kernel_rfl) (by kernel_rfl) (fun _ _ _ h => h) (Or.inl ⟨by rfl, ?_⟩) (by assumption) ?_
  rotate_left
  · (intro w hSw; (try dsimp only at hSw); go_simp; try with_reducible rfl)
  simp only [Act.put, List.setIfInBounds_toArray, List.set_cons_zero, List.set_cons_succ]
  refine wpAnyH_take (i := 15) (oi := ⟨some 4, .assign (.tmp 62), 4, "law.go:97", #[⟨14, .data⟩, ⟨13, .chain⟩, ⟨0, .phase⟩, ⟨1, .phase⟩, ⟨2, .phase⟩, ⟨3, .phase⟩, ⟨4, .phase⟩, ⟨5, .phase⟩, ⟨6, .phase⟩, ⟨7, .phase⟩, ⟨8, .phase⟩, ⟨9, .phase⟩, ⟨10, .phase⟩, ⟨11, .phase⟩, ⟨12, .phase⟩, ⟨13, .phase⟩, ⟨14, .phase⟩], none⟩) (v := ?_) rfl (by kernel_rfl) (by kernel_rfl) (by kernel_rfl) (fun _ _ _ h => h) (Or.inl ⟨by rfl, ?_⟩) (by assumption) ?_
  rotate_left
  · (intro w hSw; (try dsimp only at hSw); go_simp; try with_reducible rfl)
  simp only [Act.put, List.setIfInBounds_toArray, List.set_cons_zero, List.set_cons_succ]
  refine wpAnyH_done (by kernel_rfl) ?_ _
  go_wp2_with fail
  go_ret
  exact ⟨rfl, p, q, hB.take 5⟩

set_option maxHeartbeats 4000000 in
set_option maxRecDepth 100000 in
theorem step5_use (h : Apart w0 w0.heap.size (bothTs w0.heap.size x d p r q size P D) w) (hwf : P.wf D) (_hlim : D.l.length + 1 ≤ 1048576) (kd n m : Int) (b : List UInt8) (l : List Int) (ab al : Option Addr) (cb cl : Nat) (hb : BytesAt w0 ab b) (_hab : ab = none → cb = 0) (hl : IntsAt w0 al l) (_hbm : b.length ≤ 140737488351232) (hlm : l.length ≤ 140737488351232) (hbB : ∀ x, ab = some x → b ≠ [] → x.block < w0.heap.size) (hlB : ∀ x, al = some x → l ≠ [] → x.block < w0.heap.size) (hk : kd = 6) :
    Calls Try.prog 80 #[.pointer (some ⟨x, 0, none⟩), .agg #[.int .i64 kd, .int .i64 n, .int .i64 m, .slice ab b.length cb, .slice al l.length cl]] w fun e w' => Stepped w0 w0.heap.size x d r size (stepP P D size ⟨kd, n, m, b, l⟩).1 (stepP P D size ⟨kd, n, m, b, l⟩).2 e w' := by
  have hst : stepP P D size ⟨kd, n, m, b, l⟩ = (P.use l, D) := by
    unfold stepP
    simp [hk]
  obtain ⟨W1, hW1⟩ : ∃ W1, W1 = w.alloc (.cells #[.int .i64 kd, .int .i64 n, .int .i64 m, .slice ab b.length cb, .slice al l.length cl] 102) := ⟨_, rfl⟩
  obtain ⟨k, hk2⟩ : ∃ k, k = w.heap.size := ⟨_, rfl⟩
  have h1 : Apart w0 w0.heap.size (bothTs w0.heap.size x d p r q size P D ++ [BlkT w0.heap.size k (opWO ⟨kd, n, m, b, l⟩ ab cb al cl)]) W1 := by rw [hW1, hk2]; exact h.lay _
  have XC : ∀ (Ts : List (Thg w0.heap.size)) w', Apart w0 w0.heap.size Ts w' → Ts[2]? = some (BlkT w0.heap.size x (xObj d r (.pointer (some ⟨p, 0, none⟩)) (.pointer (some ⟨q, 0, none⟩)) (size : Int))) → Ts[5]? = some (BlkT w0.heap.size k (opWO ⟨kd, n, m, b, l⟩ ab cb al cl)) → _ := fun Ts w' h h2 h5 => h.cells5 h2 h5
  dsimp only at XC
  have HXC := Lib.hid XC
  have HW1 := Lib.hid hW1
  have HK2 := Lib.hid hk2
  have HH := Lib.hid h1
  have BY : ∀ (Ts : List (Thg w0.heap.size)) w', Apart w0 w0.heap.size Ts w' → BytesAt w' ab b := fun Ts w' h => hb.below h.bel hbB
  have IN : ∀ (Ts : List (Thg w0.heap.size)) w', Apart w0 w0.heap.size Ts w' → IntsAt w' al l := fun Ts w' h => hl.mod (Mod.of_below h.bel) (fun x hx hne e => by have := hlB x hx hne; omega)
  have HBY := Lib.hid BY
  have HIN := Lib.hid IN
  have HLB := Lib.hid hlB
  have HBB := Lib.hid hbB
  have y0 := (XC _ _ h1 rfl rfl)
  rw [hst]
  clear hW1 hk2 h1 XC BY IN hb hl hlB hbB hst
  obtain ⟨y0, y1, y2, y3, y4, y5, y6, y7, y8⟩ := y0
  have KA : ∀ (Ts : List (Thg w0.heap.size)) w', Apart w0 w0.heap.size Ts w' → Ts[3]? = some (PT w0.heap.size p d P) → Ts[3]? = Ts[3]? → _ := fun Ts w' h h3 _ => h.puse 3 h3 (by have := hwf.fit; have := hwf.top; omega) al l l.length cl rfl (by omega) (HIN.out _ _ h) HLB.out
  have KB : ∀ (Ts : List (Thg w0.heap.size)) w', Apart w0 w0.heap.size Ts w' → Ts[4]? = some (RPT w0.heap.size q r P) → Ts[4]? = Ts[4]? → _ := fun Ts w' h h4 _ => h.rpuse 4 h4 al l l.length cl rfl (by omega) (HIN.out _ _ h) HLB.out
  replace KA := Lib.hid KA
  replace KB := Lib.hid KB
  subst hk
  go_enter Try.func80, Try.ntmps80
  go_upto_region 18 with fail
  rw [← HW1.out, ← HK2.out]
  clear y0 y1 y2 y3 y4 y5 y6 y7 y8
  have HD1 := Lib.hid (HH.out.still (Mod.drew _ _))
  refine wp_region_held_drew (S := fun w' => w'.cell? ⟨x, 0, none⟩ = some (.pointer (some ⟨d, 0, none⟩)) ∧ w'.cell? ⟨x, 1, none⟩ = some (.pointer (some ⟨p, 0, none⟩)) ∧ w'.cell? ⟨x, 2, none⟩ = some (.pointer (some ⟨r, 0, none⟩)) ∧ w'.cell? ⟨x, 3, none⟩ = some (.pointer (some ⟨q, 0, none⟩)) ∧ w'.cell? ⟨x, 4, none⟩ = some (.int .i64 (size : Int)) ∧ w'.cell? ⟨k, 1, none⟩ = some (.int .i64 n) ∧ w'.cell? ⟨k, 2, none⟩ = some (.int .i64 m) ∧ w'.cell? ⟨k, 3, none⟩ = some (.slice ab b.length cb) ∧ w'.cell? ⟨k, 4, none⟩ = some (.slice al l.length cl)) (by kernel_rfl) (HXC.out _ _ (HH.out.still (Mod.drew _ _)) rfl rfl) (fun hHeld => ?_)
  refine wpAnyH_take (i := 0) (oi := ⟨some 107, .move (.tmp 0), 115, "law.go:105", #[], none⟩) (v := ?_) rfl (by kernel_rfl) (by kernel_rfl) (by kernel_rfl) (fun _ _ _ h => h) (Or.inl ⟨by rfl, ?_⟩) (by assumption) ?_
  rotate_left
  · (intro w hSw; (try dsimp only at hSw); go_simp; try with_reducible rfl)
  simp only [Act.put, List.setIfInBounds_toArray, List.set_cons_zero, List.set_cons_succ]
  refine wpAnyH_take (i := 1) (oi := ⟨some 108, .nilCheck (.tmp 107), 0, "law.go:105", #[⟨0, .data⟩], none⟩) (v := ?_) rfl (by kernel_rfl) (by kernel_rfl) (by kernel_rfl) (fun _ _ _ h => h) (Or.inl ⟨by rfl, ?_⟩) (by assumption) ?_
  rotate_left
  · (intro w hSw; (try dsimp only at hSw); go_simp; try with_reducible rfl)
  simp only [Act.put, List.setIfInBounds_toArray, List.set_cons_zero, List.set_cons_succ]
  refine wpAnyH_take (i := 2) (oi := ⟨some 109, .fieldAddr 118 (.tmp 108) 1, 0, "law.go:105", #[⟨1, .data⟩], none⟩) (v := ?_) rfl (by kernel_rfl) (by kernel_rfl) (by kernel_rfl) (fun _ _ _ h => h) (Or.inl ⟨by rfl, ?_⟩) (by assumption) ?_
  rotate_left
  · (intro w hSw; (try dsimp only at hSw); go_simp; try with_reducible rfl)
  simp only [Act.put, List.setIfInBounds_toArray, List.set_cons_zero, List.set_cons_succ]
  refine wpAnyH_take (i := 3) (oi := ⟨some 110, .load 93 (.tmp 109), 93, "law.go:105", #[⟨2, .data⟩], none⟩) (v := ?_) rfl (by kernel_rfl) (by kernel_rfl) (by kernel_rfl) (fun _ _ _ h => h) (Or.inl ⟨by rfl, ?_⟩) (by assumption) ?_
  rotate_left
  · (intro w hSw; (try dsimp only at hSw); go_simp; try with_reducible rfl)
  simp only [Act.put, List.setIfInBounds_toArray, List.set_cons_zero, List.set_cons_succ]
  refine wpAnyH_take (i := 4) (oi := ⟨some 111, .fieldAddr 102 (.tmp 3) 4, 0, "law.go:105", #[], none⟩) (v := ?_) rfl (by kernel_rfl) (by kernel_rfl) (by kernel_rfl) (fun _ _ _ h => h) (Or.inl ⟨by rfl, ?_⟩) (by assumption) ?_
  rotate_left
  · (intro w hSw; (try dsimp only at hSw); go_simp; try with_reducible rfl)
  simp only [Act.put, List.setIfInBounds_toArray, List.set_cons_zero, List.set_cons_succ]
  refine wpAnyH_take (i := 5) (oi := ⟨some 112, .load 39 (.tmp 111), 39, "law.go:105", #[⟨4, .data⟩], none⟩) (v := ?_) rfl (by kernel_rfl) (by kernel_rfl) (by kernel_rfl) (fun _ _ _ h => h) (Or.inl ⟨by rfl, ?_⟩) (by assumption) ?_
  rotate_left
  · (intro w hSw; (try dsimp only at hSw); go_simp; try with_reducible rfl)
  simp only [Act.put, List.setIfInBounds_toArray, List.set_cons_zero, List.set_cons_succ]
  refine wpAnyH_take (i := 7) (oi := ⟨some 114, .move (.tmp 0), 115, "law.go:105", #[], none⟩) (v := ?_) rfl (by kernel_rfl) (by kernel_rfl) (by kernel_rfl) (fun _ _ _ h => h) (Or.inl ⟨by rfl, ?_⟩) (by assumption) ?_
  rotate_left
  · (intro w hSw; (try dsimp only at hSw); go_simp; try with_reducible rfl)
  simp only [Act.put, List.setIfInBounds_toArray, List.set_cons_zero, List.set_cons_succ]
  refine wpAnyH_take (i := 8) (oi := ⟨some 115, .nilCheck (.tmp 114), 0, "law.go:105", #[⟨7, .data⟩], none⟩) (v := ?_) rfl (by kernel_rfl) (by kernel_rfl) (by kernel_rfl) (fun _ _ _ h => h) (Or.inl ⟨by rfl, ?_⟩) (by assumption) ?_
  rotate_left
  · (intro w hSw; (try dsimp only at hSw); go_simp; try with_reducible rfl)
  simp only [Act.put, List.setIfInBounds_toArray, List.set_cons_zero, List.set_cons_succ]
  refine wpAnyH_take (i := 9) (oi := ⟨some 116, .fieldAddr 118 (.tmp 115) 3, 0, "law.go:105", #[⟨8, .data⟩], none⟩) (v := ?_) rfl (by kernel_rfl) (by kernel_rfl) (by kernel_rfl) (fun _ _ _ h => h) (Or.inl ⟨by rfl, ?_⟩) (by assumption) ?_
  rotate_left
  · (intro w hSw; (try dsimp only at hSw); go_simp; try with_reducible rfl)
  simp only [Act.put, List.setIfInBounds_toArray, List.set_cons_zero, List.set_cons_succ]
  refine wpAnyH_take (i := 10) (oi := ⟨some 117, .load 116 (.tmp 116), 116, "law.go:105", #[⟨9, .data⟩], none⟩) (v := ?_) rfl (by kernel_rfl) (by kernel_rfl) (by kernel_rfl) (fun _ _ _ h => h) (Or.inl ⟨by rfl, ?_⟩) (by assumption) ?_
  rotate_left
  · (intro w hSw; (try dsimp only at hSw); go_simp; try with_reducible rfl)
  simp only [Act.put, List.setIfInBounds_toArray, List.set_cons_zero, List.set_cons_succ]
  refine wpAnyH_take (i := 11) (oi := ⟨some 118, .fieldAddr 102 (.tmp 3) 4, 0, "law.go:105", #[], none⟩) (v := ?_) rfl (by kernel_rfl) (by kernel_rfl) (by kernel_rfl) (fun _ _ _ h => h) (Or.inl ⟨by rfl, ?_⟩) (by assumption) ?_
  rotate_left
  · (intro w hSw; (try dsimp only at hSw); go_simp; try with_reducible rfl)
  simp only [Act.put, List.setIfInBounds_toArray, List.set_cons_zero, List.set_cons_succ]
  refine wpAnyH_take (i := 12) (oi := ⟨some 119, .load 39 (.tmp 118), 39, "law.go:105", #[⟨11, .data⟩], none⟩) (v := ?_) rfl (by kernel_rfl) (by kernel_rfl) (by kernel_rfl) (fun _ _ _ h => h) (Or.inl ⟨by rfl, ?_⟩) (by assumption) ?_
  rotate_left
  · (intro w hSw; (try dsimp only at hSw); go_simp; try with_reducible rfl)
  simp only [Act.put, List.setIfInBounds_toArray, List.set_cons_zero, List.set_cons_succ]
  refine wpAnyH_ready (rs := [6]) (by kernel_rfl) (by simp) ?_
  refine AllReadyH.cons (o := ⟨some 113, .call { callee := .value (.func 78), args := #[.tmp 110, .tmp 112], argTypes := #[93, 39] }, 32, "law.go:105", #[⟨3, .data⟩, ⟨5, .data⟩], none⟩) rfl (fun K hK => ?_) AllReadyH.nil
  go_simp
  refine (KA.out _ _ HD1.out rfl rfl).mono ?_
  rintro e wa ⟨rfl, hA⟩
  try simp only []
  refine hK.out _ _ (HXC.out _ _ hA rfl rfl) (fun _ => ?_)
  clear hK K
  try simp only [Act.put, List.setIfInBounds_toArray, List.set_cons_zero, List.set_cons_succ]
  refine wpAnyH_ready (rs := [13]) (by kernel_rfl) (by simp) ?_
  refine AllReadyH.cons (o := ⟨some 120, .call { callee := .value (.func 118), args := #[.tmp 117, .tmp 119], argTypes := #[116, 39] }, 32, "law.go:105", #[⟨10, .data⟩, ⟨12, .data⟩, ⟨6, .chain⟩], none⟩) rfl (fun K hK => ?_) AllReadyH.nil
  go_simp
  refine (KB.out _ _ hA rfl rfl).mono ?_
  rintro e wb ⟨rfl, hB⟩
  try simp only []
  refine hK.out _ _ (HXC.out _ _ hB rfl rfl) (fun _ => ?_)
  clear hK K
  try simp only [Act.put, List.setIfInBounds_toArray, List.set_cons_zero, List.set_cons_succ]
  refine wpAnyH_take (i := 14) (oi := ⟨some 121, .binOp .eql 32 (.tmp 113) (.tmp 120) 32, 4, "law.go:105", #[⟨6, .data⟩, ⟨13, .data⟩], none⟩) (v := ?_) rfl (by kernel_rfl) (by kernel_rfl) (by kernel_rfl) (fun _ _ _ h => h) (Or.inl ⟨by rfl, ?_⟩) (by assumption) ?_
  rotate_left
  · (intro w hSw; (try dsimp only at hSw); go_simp; try with_reducible rfl)
  simp only [Act.put, List.setIfInBounds_toArray, List.set_cons_zero, List.set_cons_succ]
  refine wpAnyH_take (i := 15) (oi := ⟨some 4, .assign (.tmp 121), 4, "law.go:105", #[⟨14, .data⟩, ⟨13, .chain⟩, ⟨0, .phase⟩, ⟨1, .phase⟩, ⟨2, .phase⟩, ⟨3, .phase⟩, ⟨4, .phase⟩, ⟨5, .phase⟩, ⟨6, .phase⟩, ⟨7, .phase⟩, ⟨8, .phase⟩, ⟨9, .phase⟩, ⟨10, .phase⟩, ⟨11, .phase⟩, ⟨12, .phase⟩, ⟨13, .phase⟩, ⟨14, .phase⟩], none⟩) (v := ?_) rfl (by kernel_rfl) (by kernel_rfl) (by kernel_rfl) (fun _ _ _ h => h) (Or.inl ⟨by rfl, ?_⟩) (by assumption) ?_
  rotate_left
  · (intro w hSw; (try dsimp only at hSw); go_simp; try with_reducible rfl)
  simp only [Act.put, List.setIfInBounds_toArray, List.set_cons_zero, List.set_cons_succ]
  refine wpAnyH_done (by kernel_rfl) ?_ _
  go_wp2_with fail
  go_ret
  exact ⟨rfl, p, q, hB.take 5⟩
end
end Go.Proofs.Ytdinnkacilgmmaa
namespace Go.Proofs.Ytdinnkacilgmmaa
open Go.RowKit

/-- nothing, as a thing -/
def NoT (B : Nat) : Thg B := ⟨fun _ F => F = fun _ => False, fun {w F} h k hk => by subst h; exact hk.elim, fun {G w w' F} h _ _ => h⟩
section
variable {w0 w : World} {x d p r q size : Nat} {P : Pgr} {D : Dsk}
theorem Apart.lentOut {B : Nat} {Ts : List (Thg B)} (h : Apart w0 B Ts w) (a : Option Addr) (l : List UInt8) (cap : Nat) (hm : l.length ≤ 140737488351232) (ha : a = none → cap = 0) (hb : BytesAt w a l) :
    Calls Try.prog 46 #[.slice a l.length cap] w fun e w' => ∃ g c, e = .returned (.slice (some ⟨g, 0, none⟩) l.length c) ∧ Apart w0 B (Ts ++ [BytesT B (.slice (some ⟨g, 0, none⟩) (l.length + 1) c) (l ++ [0xa7])]) w' := by
  refine (lent_any a l cap w B h.le hm ha hb).mono ?_
  rintro e w' ⟨g, c, he, hL, hm, hg⟩
  exact ⟨g, c, he, h.more (BytesT B (.slice (some ⟨g, 0, none⟩) (l.length + 1) c) (l ++ [0xa7])) hm (F := fun k => (Value.slice (some ⟨g, 0, none⟩) (l.length + 1) c).ownBlock = some k) ⟨hL, rfl⟩ (fun k hk => by simp [Value.ownBlock] at hk; omega)⟩
theorem Apart.lent {B g c i : Nat} {l : List UInt8} {Ts : List (Thg B)} (h : Apart w0 B Ts w) (hi : Ts[i]? = some (BytesT B (.slice (some ⟨g, 0, none⟩) (l.length + 1) c) (l ++ [0xa7]))) : LentB w B g c l := h.bytes i hi
theorem Apart.lentSpoilt {B g c i : Nat} {l : List UInt8} {Ts : List (Thg B)} (h : Apart w0 B Ts w) (hi : Ts[i]? = some (BytesT B (.slice (some ⟨g, 0, none⟩) (l.length + 1) c) (l ++ [0xa7]))) (hm : l.length ≤ 140737488351232) :
    Calls Try.prog 49 #[.slice (some ⟨g, 0, none⟩) l.length c] w fun e w' => e = .returned (.tuple #[]) ∧ Apart w0 B (Ts.set i (NoT B)) w' := by
  obtain ⟨F, ⟨hL, rfl⟩, hup⟩ := h.turn i hi
  refine (spoil_any (OwnB.front hL) h.le hm).mono ?_
  rintro e w' ⟨he, hm⟩
  exact ⟨he, hup _ _ ⟨hm.mono (fun k _ e => e.symm), _, rfl, fun k hk => hk.elim⟩⟩

set_option maxHeartbeats 4000000 in
set_option maxRecDepth 100000 in
theorem step5_flip (h : Apart w0 w0.heap.size (bothTs w0.heap.size x d p r q size P D) w) (hwf : P.wf D) (hlim : D.l.length + 1 ≤ 1048576) (hgen : P.root.gen + 1 < 4611686018427387904) (kd n m : Int) (b : List UInt8) (l : List Int) (ab al : Option Addr) (cb cl : Nat) (hb : BytesAt w0 ab b) (hab : ab = none → cb = 0) (hl : IntsAt w0 al l) (hbm : b.length ≤ 140737488351232) (hlm : l.length ≤ 140737488351232) (hbB : ∀ x, ab = some x → b ≠ [] → x.block < w0.heap.size) (hlB : ∀ x, al = some x → l ≠ [] → x.block < w0.heap.size) (hk : kd = 4 ∨ kd = 5) :
    Calls Try.prog 80 #[.pointer (some ⟨x, 0, none⟩), .agg #[.int .i64 kd, .int .i64 n, .int .i64 m, .slice ab b.length cb, .slice al l.length cl]] w fun e w' => Stepped w0 w0.heap.size x d r size (stepP P D size ⟨kd, n, m, b, l⟩).1 (stepP P D size ⟨kd, n, m, b, l⟩).2 e w' := by
  have hst : stepP P D size ⟨kd, n, m, b, l⟩ = ((P.flip D n m b l).2.1, (P.flip D n m b l).2.2) := by
    unfold stepP
    rcases hk with rfl | rfl <;> simp
  obtain ⟨W1, hW1⟩ : ∃ W1, W1 = w.alloc (.cells #[.int .i64 kd, .int .i64 n, .int .i64 m, .slice ab b.length cb, .slice al l.length cl] 102) := ⟨_, rfl⟩
  obtain ⟨k, hk2⟩ : ∃ k, k = w.heap.size := ⟨_, rfl⟩
  have h1 : Apart w0 w0.heap.size (bothTs w0.heap.size x d p r q size P D ++ [BlkT w0.heap.size k (opWO ⟨kd, n, m, b, l⟩ ab cb al cl)]) W1 := by rw [hW1, hk2]; exact h.lay _
  have XC : ∀ (Ts : List (Thg w0.heap.size)) w', Apart w0 w0.heap.size Ts w' → Ts[2]? = some (BlkT w0.heap.size x (xObj d r (.pointer (some ⟨p, 0, none⟩)) (.pointer (some ⟨q, 0, none⟩)) (size : Int))) → Ts[5]? = some (BlkT w0.heap.size k (opWO ⟨kd, n, m, b, l⟩ ab cb al cl)) → _ := fun Ts w' h h2 h5 => h.cells5 h2 h5
  dsimp only at XC
  have HXC := Lib.hid XC
  have HW1 := Lib.hid hW1
  have HK2 := Lib.hid hk2
  have HH := Lib.hid h1
  have BY : ∀ (Ts : List (Thg w0.heap.size)) w', Apart w0 w0.heap.size Ts w' → BytesAt w' ab b := fun Ts w' h => hb.below h.bel hbB
  have IN : ∀ (Ts : List (Thg w0.heap.size)) w', Apart w0 w0.heap.size Ts w' → IntsAt w' al l := fun Ts w' h => hl.mod (Mod.of_below h.bel) (fun x hx hne e => by have := hlB x hx hne; omega)
  have HBY := Lib.hid BY
  have HIN := Lib.hid IN
  have HLB := Lib.hid hlB
  have HBB := Lib.hid hbB
  have y0 := (XC _ _ h1 rfl rfl)
  rw [hst]
  clear hW1 hk2 h1 XC BY IN hb hl hlB hbB hst
  obtain ⟨y0, y1, y2, y3, y4, y5, y6, y7, y8⟩ := y0
  obtain ⟨code, P', D', ho⟩ : ∃ c P' D', P.flip D n m b l = (c, P', D') := ⟨_, _, _, rfl⟩
  rw [ho]
  dsimp only
  have HO := Lib.hid ho
  clear ho
  have KB : ∀ (Ts : List (Thg w0.heap.size)) w', Apart w0 w0.heap.size Ts w' → Ts[4]? = some (RPT w0.heap.size q r P) → Ts[1]? = some (RDiskT w0.heap.size r D) → Calls Try.prog 117 #[.pointer (some ⟨q, 0, none⟩), .int .i64 n, .int .i64 m, .slice ab b.length cb, .slice al l.length cl] w' fun e w' => e = .returned (.int .i64 code) ∧ Apart w0 w0.heap.size ((Ts.set 4 (RPT w0.heap.size q r P')).set 1 (RDiskT w0.heap.size r D')) w' := fun Ts w' h h4 h1 =>
    by
    have := h.rpflip 4 1 h4 h1 (by decide) hwf hlim hgen n m ab b b.length cb rfl (by omega) hab (HBY.out _ _ h) al l l.length cl rfl (by omega) (HIN.out _ _ h) HLB.out
    rw [HO.out] at this
    exact this
  rcases hk with rfl | rfl
  · go_enter Try.func80, Try.ntmps80
    go_upto_region 12 with fail
    rw [← HW1.out, ← HK2.out]
    clear y0 y1 y2 y3 y4 y5 y6 y8
    go_wp2_with fail
    refine (HH.out.lentOut ab b cb hbm hab (HBY.out _ _ HH.out)).mono ?_
    rintro e w2 ⟨g, c, rfl, h2⟩
    have HD1 := Lib.hid (h2.still (Mod.drew _ _))
    have KA : ∀ (Ts : List (Thg w0.heap.size)) w', Apart w0 w0.heap.size Ts w' → Ts[3]? = some (PT w0.heap.size p d P) → Ts[0]? = some (DiskT w0.heap.size d D) → Ts[6]? = some (BytesT w0.heap.size (.slice (some ⟨g, 0, none⟩) (b.length + 1) c) (b ++ [0xa7])) → Calls Try.prog 68 #[.pointer (some ⟨p, 0, none⟩), .int .i64 n, .int .i64 m, .slice (some ⟨g, 0, none⟩) b.length c, .slice al l.length cl] w' fun e w' => e = .returned (.int .i64 code) ∧ Apart w0 w0.heap.size ((Ts.set 3 (PT w0.heap.size p d P')).set 0 (DiskT w0.heap.size d D')) w' := fun Ts w' h h3 h0 h6 =>
      by
      have := h.pflip 3 0 h3 h0 (by decide) hwf hlim hgen n m (some ⟨g, 0, none⟩) b b.length c rfl (by omega) (fun e => by cases e) (h.lent h6).bytes.1 al l l.length cl rfl (by omega) (HIN.out _ _ h) HLB.out
      rw [HO.out] at this
      exact this
    have KC : ∀ (Ts : List (Thg w0.heap.size)) w', Apart w0 w0.heap.size Ts w' → Ts[6]? = some (BytesT w0.heap.size (.slice (some ⟨g, 0, none⟩) (b.length + 1) c) (b ++ [0xa7])) → Calls Try.prog 48 #[.slice (some ⟨g, 0, none⟩) b.length c, .slice ab b.length cb] w' fun e w'' => e = .returned (.bool true) ∧ w' = w'' := fun Ts w' h h6 =>
      kept_any b (h.lent h6) ab cb (HBY.out _ _ h) hbm hab
    have KE : ∀ (Ts : List (Thg w0.heap.size)) w', Apart w0 w0.heap.size Ts w' → Ts[6]? = some (BytesT w0.heap.size (.slice (some ⟨g, 0, none⟩) (b.length + 1) c) (b ++ [0xa7])) → Calls Try.prog 49 #[.slice (some ⟨g, 0, none⟩) b.length c] w' fun e w'' => e = .returned (.tuple #[]) ∧ Apart w0 w0.heap.size (Ts.set 6 (NoT w0.heap.size)) w'' := fun Ts w' h h6 =>
      h.lentSpoilt h6 hbm
    replace KA := Lib.hid KA
    replace KB := Lib.hid KB
    replace KC := Lib.hid KC
    replace KE := Lib.hid KE
    clear h2 y7
    go_upto_region 13 with fail
    refine wp_region_held_drew (S := fun w' => w'.cell? ⟨x, 0, none⟩ = some (.pointer (some ⟨d, 0, none⟩)) ∧ w'.cell? ⟨x, 1, none⟩ = some (.pointer (some ⟨p, 0, none⟩)) ∧ w'.cell? ⟨x, 2, none⟩ = some (.pointer (some ⟨r, 0, none⟩)) ∧ w'.cell? ⟨x, 3, none⟩ = some (.pointer (some ⟨q, 0, none⟩)) ∧ w'.cell? ⟨x, 4, none⟩ = some (.int .i64 (size : Int)) ∧ w'.cell? ⟨k, 1, none⟩ = some (.int .i64 n) ∧ w'.cell? ⟨k, 2, none⟩ = some (.int .i64 m) ∧ w'.cell? ⟨k, 3, none⟩ = some (.slice ab b.length cb) ∧ w'.cell? ⟨k, 4, none⟩ = some (.slice al l.length cl)) (by kernel_rfl) (HXC.out _ _ HD1.out rfl rfl) (fun hHeld => ?_)
    refine wpAnyH_take (i := 0) (oi := ⟨some 69, .move (.tmp 0), 115, "law.go:100", #[], none⟩) (v := ?_) rfl (by kernel_rfl) (by kernel_rfl) (by kernel_rfl) (fun _ _ _ h => h) (Or.inl ⟨by rfl, ?_⟩) (by assumption) ?_
    rotate_left
    · (intro w hSw; (try dsimp only at hSw); go_simp; try with_reducible rfl)
    simp only [Act.put, List.setIfInBounds_toArray, List.set_cons_zero, List.set_cons_succ]
    refine wpAnyH_take (i := 1) (oi := ⟨some 70, .nilCheck (.tmp 69), 0, "law.go:100", #[⟨0, .data⟩], none⟩) (v := ?_) rfl (by kernel_rfl) (by kernel_rfl) (by kernel_rfl) (fun _ _ _ h => h) (Or.inl ⟨by rfl, ?_⟩) (by assumption) ?_
    rotate_left
    · (intro w hSw; (try dsimp only at hSw); go_simp; try with_reducible rfl)
    simp only [Act.put, List.setIfInBounds_toArray, List.set_cons_zero, List.set_cons_succ]
    refine wpAnyH_take (i := 2) (oi := ⟨some 71, .fieldAddr 118 (.tmp 70) 1, 0, "law.go:100", #[⟨1, .data⟩], none⟩) (v := ?_) rfl (by kernel_rfl) (by kernel_rfl) (by kernel_rfl) (fun _ _ _ h => h) (Or.inl ⟨by rfl, ?_⟩) (by assumption) ?_
    rotate_left
    · (intro w hSw; (try dsimp only at hSw); go_simp; try with_reducible rfl)
    simp only [Act.put, List.setIfInBounds_toArray, List.set_cons_zero, List.set_cons_succ]
    refine wpAnyH_take (i := 3) (oi := ⟨some 72, .load 93 (.tmp 71), 93, "law.go:100", #[⟨2, .data⟩], none⟩) (v := ?_) rfl (by kernel_rfl) (by kernel_rfl) (by kernel_rfl) (fun _ _ _ h => h) (Or.inl ⟨by rfl, ?_⟩) (by assumption) ?_
    rotate_left
    · (intro w hSw; (try dsimp only at hSw); go_simp; try with_reducible rfl)
    simp only [Act.put, List.setIfInBounds_toArray, List.set_cons_zero, List.set_cons_succ]
    refine wpAnyH_take (i := 4) (oi := ⟨some 73, .fieldAddr 102 (.tmp 3) 1, 0, "law.go:100", #[], none⟩) (v := ?_) rfl (by kernel_rfl) (by kernel_rfl) (by kernel_rfl) (fun _ _ _ h => h) (Or.inl ⟨by rfl, ?_⟩) (by assumption) ?_
    rotate_left
    · (intro w hSw; (try dsimp only at hSw); go_simp; try with_reducible rfl)
    simp only [Act.put, List.setIfInBounds_toArray, List.set_cons_zero, List.set_cons_succ]
    refine wpAnyH_take (i := 5) (oi := ⟨some 74, .load 3 (.tmp 73), 3, "law.go:100", #[⟨4, .data⟩], none⟩) (v := ?_) rfl (by kernel_rfl) (by kernel_rfl) (by kernel_rfl) (fun _ _ _ h => h) (Or.inl ⟨by rfl, ?_⟩) (by assumption) ?_
    rotate_left
    · (intro w hSw; (try dsimp only at hSw); go_simp; try with_reducible rfl)
    simp only [Act.put, List.setIfInBounds_toArray, List.set_cons_zero, List.set_cons_succ]
    refine wpAnyH_take (i := 6) (oi := ⟨some 75, .fieldAddr 102 (.tmp 3) 2, 0, "law.go:100", #[], none⟩) (v := ?_) rfl (by kernel_rfl) (by kernel_rfl) (by kernel_rfl) (fun _ _ _ h => h) (Or.inl ⟨by rfl, ?_⟩) (by assumption) ?_
    rotate_left
    · (intro w hSw; (try dsimp only at hSw); go_simp; try with_reducible rfl)
    simp only [Act.put, List.setIfInBounds_toArray, List.set_cons_zero, List.set_cons_succ]
    refine wpAnyH_take (i := 7) (oi := ⟨some 76, .load 2 (.tmp 75), 2, "law.go:100", #[⟨6, .data⟩], none⟩) (v := ?_) rfl (by kernel_rfl) (by kernel_rfl) (by kernel_rfl) (fun _ _ _ h => h) (Or.inl ⟨by rfl, ?_⟩) (by assumption) ?_
    rotate_left
    · (intro w hSw; (try dsimp only at hSw); go_simp; try with_reducible rfl)
    simp only [Act.put, List.setIfInBounds_toArray, List.set_cons_zero, List.set_cons_succ]
    refine wpAnyH_take (i := 8) (oi := ⟨some 77, .move (.tmp 9), 22, "law.go:100", #[], none⟩) (v := ?_) rfl (by kernel_rfl) (by kernel_rfl) (by kernel_rfl) (fun _ _ _ h => h) (Or.inl ⟨by rfl, ?_⟩) (by assumption) ?_
    rotate_left
    · (intro w hSw; (try dsimp only at hSw); go_simp; try with_reducible rfl)
    simp only [Act.put, List.setIfInBounds_toArray, List.set_cons_zero, List.set_cons_succ]
    refine wpAnyH_take (i := 9) (oi := ⟨some 78, .fieldAddr 102 (.tmp 3) 4, 0, "law.go:100", #[], none⟩) (v := ?_) rfl (by kernel_rfl) (by kernel_rfl) (by kernel_rfl) (fun _ _ _ h => h) (Or.inl ⟨by rfl, ?_⟩) (by assumption) ?_
    rotate_left
    · (intro w hSw; (try dsimp only at hSw); go_simp; try with_reducible rfl)
    simp only [Act.put, List.setIfInBounds_toArray, List.set_cons_zero, List.set_cons_succ]
    refine wpAnyH_take (i := 10) (oi := ⟨some 79, .load 39 (.tmp 78), 39, "law.go:100", #[⟨9, .data⟩], none⟩) (v := ?_) rfl (by kernel_rfl) (by kernel_rfl) (by kernel_rfl) (fun _ _ _ h => h) (Or.inl ⟨by rfl, ?_⟩) (by assumption) ?_
    rotate_left
    · (intro w hSw; (try dsimp only at hSw); go_simp; try with_reducible rfl)
    simp only [Act.put, List.setIfInBounds_toArray, List.set_cons_zero, List.set_cons_succ]
    refine wpAnyH_ready (rs := [11]) (by kernel_rfl) (by simp) ?_
    refine AllReadyH.cons (o := ⟨some 80, .call { callee := .value (.func 68), args := #[.tmp 72, .tmp 74, .tmp 76, .tmp 77, .tmp 79], argTypes := #[93, 3, 2, 22, 39] }, 32, "law.go:100", #[⟨3, .data⟩, ⟨5, .data⟩, ⟨7, .data⟩, ⟨8, .data⟩, ⟨10, .data⟩], none⟩) rfl (fun K hK => ?_) AllReadyH.nil
    go_simp
    refine (KA.out _ _ HD1.out rfl rfl rfl).mono ?_
    rintro e wa ⟨rfl, hA⟩
    try simp only []
    refine hK.out _ _ (HXC.out _ _ hA rfl rfl) (fun _ => ?_)
    clear hK K
    try simp only [Act.put, List.setIfInBounds_toArray, List.set_cons_zero, List.set_cons_succ]
    refine wpAnyH_take (i := 12) (oi := ⟨some 10, .assign (.tmp 80), 32, "law.go:100", #[⟨11, .data⟩, ⟨11, .chain⟩, ⟨0, .phase⟩, ⟨1, .phase⟩, ⟨2, .phase⟩, ⟨3, .phase⟩, ⟨4, .phase⟩, ⟨5, .phase⟩, ⟨6, .phase⟩, ⟨7, .phase⟩, ⟨8, .phase⟩, ⟨9, .phase⟩, ⟨10, .phase⟩, ⟨11, .phase⟩], none⟩) (v := ?_) rfl (by kernel_rfl) (by kernel_rfl) (by kernel_rfl) (fun _ _ _ h => h) (Or.inl ⟨by rfl, ?_⟩) (by assumption) ?_
    rotate_left
    · (intro w hSw; (try dsimp only at hSw); go_simp; try with_reducible rfl)
    simp only [Act.put, List.setIfInBounds_toArray, List.set_cons_zero, List.set_cons_succ]
    refine wpAnyH_done (by kernel_rfl) ?_ _
    have HA := Lib.hid hA
    have y7 := (HXC.out _ _ HA.out rfl rfl).2.2.2.2.2.2.2.1
    clear hA HD1
    go_wp2_with fail
    refine (KC.out _ _ HA.out rfl).mono ?_
    rintro e wb ⟨rfl, rfl⟩
    clear y7
    go_wp2_with fail
    refine (KE.out _ _ HA.out rfl).mono ?_
    rintro e w5 ⟨rfl, h5⟩
    have HD2 := Lib.hid (h5.still (Mod.drew _ _))
    clear h5 HA
    go_upto_region 16 with fail
    refine wp_region_held_drew (S := fun w' => w'.cell? ⟨x, 0, none⟩ = some (.pointer (some ⟨d, 0, none⟩)) ∧ w'.cell? ⟨x, 1, none⟩ = some (.pointer (some ⟨p, 0, none⟩)) ∧ w'.cell? ⟨x, 2, none⟩ = some (.pointer (some ⟨r, 0, none⟩)) ∧ w'.cell? ⟨x, 3, none⟩ = some (.pointer (some ⟨q, 0, none⟩)) ∧ w'.cell? ⟨x, 4, none⟩ = some (.int .i64 (size : Int)) ∧ w'.cell? ⟨k, 1, none⟩ = some (.int .i64 n) ∧ w'.cell? ⟨k, 2, none⟩ = some (.int .i64 m) ∧ w'.cell? ⟨k, 3, none⟩ = some (.slice ab b.length cb) ∧ w'.cell? ⟨k, 4, none⟩ = some (.slice al l.length cl)) (by kernel_rfl) (HXC.out _ _ HD2.out rfl rfl) (fun hHeld => ?_)
    refine wpAnyH_take (i := 0) (oi := ⟨some 87, .move (.tmp 11), 4, "law.go:103", #[], none⟩) (v := ?_) rfl (by kernel_rfl) (by kernel_rfl) (by kernel_rfl) (fun _ _ _ h => h) (Or.inl ⟨by rfl, ?_⟩) (by assumption) ?_
    rotate_left
    · (intro w hSw; (try dsimp only at hSw); go_simp; try with_reducible rfl)
    simp only [Act.put, List.setIfInBounds_toArray, List.set_cons_zero, List.set_cons_succ]
    refine wpAnyH_take (i := 1) (oi := ⟨some 88, .move (.tmp 87), 4, "law.go:103", #[⟨0, .data⟩], none⟩) (v := ?_) rfl (by kernel_rfl) (by kernel_rfl) (by kernel_rfl) (fun _ _ _ h => h) (Or.inl ⟨by rfl, ?_⟩) (by assumption) ?_
    rotate_left
    · (intro w hSw; (try dsimp only at hSw); go_simp; try with_reducible rfl)
    simp only [Act.put, List.setIfInBounds_toArray, List.set_cons_zero, List.set_cons_succ]
    refine wpAnyH_take (i := 2) (oi := ⟨some 89, .move (.tmp 10), 32, "law.go:103", #[⟨1, .guard⟩], some (1, true)⟩) (v := ?_) rfl (by kernel_rfl) (by kernel_rfl) (by kernel_rfl) (fun _ _ _ h => h) (Or.inl ⟨by rfl, ?_⟩) (by assumption) ?_
    rotate_left
    · (intro w hSw; (try dsimp only at hSw); go_simp; try with_reducible rfl)
    simp only [Act.put, List.setIfInBounds_toArray, List.set_cons_zero, List.set_cons_succ]
    refine wpAnyH_take (i := 3) (oi := ⟨some 90, .move (.tmp 0), 115, "law.go:103", #[⟨1, .guard⟩], some (1, true)⟩) (v := ?_) rfl (by kernel_rfl) (by kernel_rfl) (by kernel_rfl) (fun _ _ _ h => h) (Or.inl ⟨by rfl, ?_⟩) (by assumption) ?_
    rotate_left
    · (intro w hSw; (try dsimp only at hSw); go_simp; try with_reducible rfl)
    simp only [Act.put, List.setIfInBounds_toArray, List.set_cons_zero, List.set_cons_succ]
    refine wpAnyH_take (i := 4) (oi := ⟨some 91, .nilCheck (.tmp 90), 0, "law.go:103", #[⟨3, .data⟩, ⟨1, .guard⟩], some (1, true)⟩) (v := ?_) rfl (by kernel_rfl) (by kernel_rfl) (by kernel_rfl) (fun _ _ _ h => h) (Or.inl ⟨by rfl, ?_⟩) (by assumption) ?_
    rotate_left
    · (intro w hSw; (try dsimp only at hSw); go_simp; try with_reducible rfl)
    simp only [Act.put, List.setIfInBounds_toArray, List.set_cons_zero, List.set_cons_succ]
    refine wpAnyH_take (i := 5) (oi := ⟨some 92, .fieldAddr 118 (.tmp 91) 3, 0, "law.go:103", #[⟨4, .data⟩, ⟨1, .guard⟩], some (1, true)⟩) (v := ?_) rfl (by kernel_rfl) (by kernel_rfl) (by kernel_rfl) (fun _ _ _ h => h) (Or.inl ⟨by rfl, ?_⟩) (by assumption) ?_
    rotate_left
    · (intro w hSw; (try dsimp only at hSw); go_simp; try with_reducible rfl)
    simp only [Act.put, List.setIfInBounds_toArray, List.set_cons_zero, List.set_cons_succ]
    refine wpAnyH_take (i := 6) (oi := ⟨some 93, .load 116 (.tmp 92), 116, "law.go:103", #[⟨5, .data⟩, ⟨1, .guard⟩], some (1, true)⟩) (v := ?_) rfl (by kernel_rfl) (by kernel_rfl) (by kernel_rfl) (fun _ _ _ h => h) (Or.inl ⟨by rfl, ?_⟩) (by assumption) ?_
    rotate_left
    · (intro w hSw; (try dsimp only at hSw); go_simp; try with_reducible rfl)
    simp only [Act.put, List.setIfInBounds_toArray, List.set_cons_zero, List.set_cons_succ]
    refine wpAnyH_take (i := 7) (oi := ⟨some 94, .fieldAddr 102 (.tmp 3) 1, 0, "law.go:103", #[⟨1, .guard⟩], some (1, true)⟩) (v := ?_) rfl (by kernel_rfl) (by kernel_rfl) (by kernel_rfl) (fun _ _ _ h => h) (Or.inl ⟨by rfl, ?_⟩) (by assumption) ?_
    rotate_left
    · (intro w hSw; (try dsimp only at hSw); go_simp; try with_reducible rfl)
    simp only [Act.put, List.setIfInBounds_toArray, List.set_cons_zero, List.set_cons_succ]
    refine wpAnyH_take (i := 8) (oi := ⟨some 95, .load 3 (.tmp 94), 3, "law.go:103", #[⟨7, .data⟩, ⟨1, .guard⟩], some (1, true)⟩) (v := ?_) rfl (by kernel_rfl) (by kernel_rfl) (by kernel_rfl) (fun _ _ _ h => h) (Or.inl ⟨by rfl, ?_⟩) (by assumption) ?_
    rotate_left
    · (intro w hSw; (try dsimp only at hSw); go_simp; try with_reducible rfl)
    simp only [Act.put, List.setIfInBounds_toArray, List.set_cons_zero, List.set_cons_succ]
    refine wpAnyH_take (i := 9) (oi := ⟨some 96, .fieldAddr 102 (.tmp 3) 2, 0, "law.go:103", #[⟨1, .guard⟩], some (1, true)⟩) (v := ?_) rfl (by kernel_rfl) (by kernel_rfl) (by kernel_rfl) (fun _ _ _ h => h) (Or.inl ⟨by rfl, ?_⟩) (by assumption) ?_
    rotate_left
    · (intro w hSw; (try dsimp only at hSw); go_simp; try with_reducible rfl)
    simp only [Act.put, List.setIfInBounds_toArray, List.set_cons_zero, List.set_cons_succ]
    refine wpAnyH_take (i := 10) (oi := ⟨some 97, .load 2 (.tmp 96), 2, "law.go:103", #[⟨9, .data⟩, ⟨1, .guard⟩], some (1, true)⟩) (v := ?_) rfl (by kernel_rfl) (by kernel_rfl) (by kernel_rfl) (fun _ _ _ h => h) (Or.inl ⟨by rfl, ?_⟩) (by assumption) ?_
    rotate_left
    · (intro w hSw; (try dsimp only at hSw); go_simp; try with_reducible rfl)
    simp only [Act.put, List.setIfInBounds_toArray, List.set_cons_zero, List.set_cons_succ]
    refine wpAnyH_take (i := 11) (oi := ⟨some 98, .fieldAddr 102 (.tmp 3) 3, 0, "law.go:103", #[⟨1, .guard⟩], some (1, true)⟩) (v := ?_) rfl (by kernel_rfl) (by kernel_rfl) (by kernel_rfl) (fun _ _ _ h => h) (Or.inl ⟨by rfl, ?_⟩) (by assumption) ?_
    rotate_left
    · (intro w hSw; (try dsimp only at hSw); go_simp; try with_reducible rfl)
    simp only [Act.put, List.setIfInBounds_toArray, List.set_cons_zero, List.set_cons_succ]
    refine wpAnyH_take (i := 12) (oi := ⟨some 99, .load 22 (.tmp 98), 22, "law.go:103", #[⟨11, .data⟩, ⟨1, .guard⟩], some (1, true)⟩) (v := ?_) rfl (by kernel_rfl) (by kernel_rfl) (by kernel_rfl) (fun _ _ _ h => h) (Or.inl ⟨by rfl, ?_⟩) (by assumption) ?_
    rotate_left
    · (intro w hSw; (try dsimp only at hSw); go_simp; try with_reducible rfl)
    simp only [Act.put, List.setIfInBounds_toArray, List.set_cons_zero, List.set_cons_succ]
    refine wpAnyH_take (i := 13) (oi := ⟨some 100, .fieldAddr 102 (.tmp 3) 4, 0, "law.go:103", #[⟨1, .guard⟩], some (1, true)⟩) (v := ?_) rfl (by kernel_rfl) (by kernel_rfl) (by kernel_rfl) (fun _ _ _ h => h) (Or.inl ⟨by rfl, ?_⟩) (by assumption) ?_
    rotate_left
    · (intro w hSw; (try dsimp only at hSw); go_simp; try with_reducible rfl)
    simp only [Act.put, List.setIfInBounds_toArray, List.set_cons_zero, List.set_cons_succ]
    refine wpAnyH_take (i := 14) (oi := ⟨some 101, .load 39 (.tmp 100), 39, "law.go:103", #[⟨13, .data⟩, ⟨1, .guard⟩], some (1, true)⟩) (v := ?_) rfl (by kernel_rfl) (by kernel_rfl) (by kernel_rfl) (fun _ _ _ h => h) (Or.inl ⟨by rfl, ?_⟩) (by assumption) ?_
    rotate_left
    · (intro w hSw; (try dsimp only at hSw); go_simp; try with_reducible rfl)
    simp only [Act.put, List.setIfInBounds_toArray, List.set_cons_zero, List.set_cons_succ]
    refine wpAnyH_ready (rs := [15]) (by kernel_rfl) (by simp) ?_
    refine AllReadyH.cons (o := ⟨some 102, .call { callee := .value (.func 117), args := #[.tmp 93, .tmp 95, .tmp 97, .tmp 99, .tmp 101], argTypes := #[116, 3, 2, 22, 39] }, 32, "law.go:103", #[⟨6, .data⟩, ⟨8, .data⟩, ⟨10, .data⟩, ⟨12, .data⟩, ⟨14, .data⟩, ⟨1, .chain⟩, ⟨1, .guard⟩], some (1, true)⟩) rfl (fun K hK => ?_) AllReadyH.nil
    go_simp
    refine (KB.out _ _ HD2.out rfl rfl).mono ?_
    rintro e wb ⟨rfl, hB⟩
    try simp only []
    refine hK.out _ _ (HXC.out _ _ hB rfl rfl) (fun _ => ?_)
    clear hK K
    try simp only [Act.put, List.setIfInBounds_toArray, List.set_cons_zero, List.set_cons_succ]
    refine wpAnyH_take (i := 16) (oi := ⟨some 103, .binOp .eql 32 (.tmp 89) (.tmp 102) 32, 4, "law.go:103", #[⟨2, .data⟩, ⟨15, .data⟩, ⟨1, .guard⟩], some (1, true)⟩) (v := ?_) rfl (by kernel_rfl) (by kernel_rfl) (by kernel_rfl) (fun _ _ _ h => h) (Or.inl ⟨by rfl, ?_⟩) (by assumption) ?_
    rotate_left
    · (intro w hSw; (try dsimp only at hSw); go_simp; try with_reducible rfl)
    simp only [Act.put, List.setIfInBounds_toArray, List.set_cons_zero, List.set_cons_succ]
    refine wpAnyH_take (i := 17) (oi := ⟨some 104, .pick (.tmp 88) (.tmp 103) (.const (.bool false)), 4, "law.go:103", #[⟨1, .data⟩, ⟨16, .data⟩], none⟩) (v := ?_) rfl (by kernel_rfl) (by kernel_rfl) (by kernel_rfl) (fun _ _ _ h => h) (Or.inl ⟨by rfl, ?_⟩) (by assumption) ?_
    rotate_left
    · (intro w hSw; (try dsimp only at hSw); go_simp; try with_reducible rfl)
    simp only [Act.put, List.setIfInBounds_toArray, List.set_cons_zero, List.set_cons_succ]
    refine wpAnyH_take (i := 18) (oi := ⟨some 4, .assign (.tmp 104), 4, "law.go:103", #[⟨17, .data⟩, ⟨15, .chain⟩, ⟨0, .phase⟩, ⟨1, .phase⟩, ⟨2, .phase⟩, ⟨3, .phase⟩, ⟨4, .phase⟩, ⟨5, .phase⟩, ⟨6, .phase⟩, ⟨7, .phase⟩, ⟨8, .phase⟩, ⟨9, .phase⟩, ⟨10, .phase⟩, ⟨11, .phase⟩, ⟨12, .phase⟩, ⟨13, .phase⟩, ⟨14, .phase⟩, ⟨15, .phase⟩, ⟨16, .phase⟩, ⟨17, .phase⟩], none⟩) (v := ?_) rfl (by kernel_rfl) (by kernel_rfl) (by kernel_rfl) (fun _ _ _ h => h) (Or.inl ⟨by rfl, ?_⟩) (by assumption) ?_
    rotate_left
    · (intro w hSw; (try dsimp only at hSw); go_simp; try with_reducible rfl)
    simp only [Act.put, List.setIfInBounds_toArray, List.set_cons_zero, List.set_cons_succ]
    refine wpAnyH_done (by kernel_rfl) ?_ _
    go_wp2_with fail
    go_ret
    exact ⟨rfl, p, q, hB.take 5⟩
  · go_enter Try.func80, Try.ntmps80
    go_upto_region 12 with fail
    rw [← HW1.out, ← HK2.out]
    clear y0 y1 y2 y3 y4 y5 y6 y8
    go_wp2_with fail
    refine (HH.out.lentOut ab b cb hbm hab (HBY.out _ _ HH.out)).mono ?_
    rintro e w2 ⟨g, c, rfl, h2⟩
    have HD1 := Lib.hid (h2.still (Mod.drew _ _))
    have KA : ∀ (Ts : List (Thg w0.heap.size)) w', Apart w0 w0.heap.size Ts w' → Ts[3]? = some (PT w0.heap.size p d P) → Ts[0]? = some (DiskT w0.heap.size d D) → Ts[6]? = some (BytesT w0.heap.size (.slice (some ⟨g, 0, none⟩) (b.length + 1) c) (b ++ [0xa7])) → Calls Try.prog 68 #[.pointer (some ⟨p, 0, none⟩), .int .i64 n, .int .i64 m, .slice (some ⟨g, 0, none⟩) b.length c, .slice al l.length cl] w' fun e w' => e = .returned (.int .i64 code) ∧ Apart w0 w0.heap.size ((Ts.set 3 (PT w0.heap.size p d P')).set 0 (DiskT w0.heap.size d D')) w' := fun Ts w' h h3 h0 h6 =>
      by
      have := h.pflip 3 0 h3 h0 (by decide) hwf hlim hgen n m (some ⟨g, 0, none⟩) b b.length c rfl (by omega) (fun e => by cases e) (h.lent h6).bytes.1 al l l.length cl rfl (by omega) (HIN.out _ _ h) HLB.out
      rw [HO.out] at this
      exact this
    have KC : ∀ (Ts : List (Thg w0.heap.size)) w', Apart w0 w0.heap.size Ts w' → Ts[6]? = some (BytesT w0.heap.size (.slice (some ⟨g, 0, none⟩) (b.length + 1) c) (b ++ [0xa7])) → Calls Try.prog 48 #[.slice (some ⟨g, 0, none⟩) b.length c, .slice ab b.length cb] w' fun e w'' => e = .returned (.bool true) ∧ w' = w'' := fun Ts w' h h6 =>
      kept_any b (h.lent h6) ab cb (HBY.out _ _ h) hbm hab
    have KE : ∀ (Ts : List (Thg w0.heap.size)) w', Apart w0 w0.heap.size Ts w' → Ts[6]? = some (BytesT w0.heap.size (.slice (some ⟨g, 0, none⟩) (b.length + 1) c) (b ++ [0xa7])) → Calls Try.prog 49 #[.slice (some ⟨g, 0, none⟩) b.length c] w' fun e w'' => e = .returned (.tuple #[]) ∧ Apart w0 w0.heap.size (Ts.set 6 (NoT w0.heap.size)) w'' := fun Ts w' h h6 =>
      h.lentSpoilt h6 hbm
    replace KA := Lib.hid KA
    replace KB := Lib.hid KB
    replace KC := Lib.hid KC
    replace KE := Lib.hid KE
    clear h2 y7
    go_upto_region 13 with fail
    refine wp_region_held_drew (S := fun w' => w'.cell? ⟨x, 0, none⟩ = some (.pointer (some ⟨d, 0, none⟩)) ∧ w'.cell? ⟨x, 1, none⟩ = some (.pointer (some ⟨p, 0, none⟩)) ∧ w'.cell? ⟨x, 2, none⟩ = some (.pointer (some ⟨r, 0, none⟩)) ∧ w'.cell? ⟨x, 3, none⟩ = some (.pointer (some ⟨q, 0, none⟩)) ∧ w'.cell? ⟨x, 4, none⟩ = some (.int .i64 (size : Int)) ∧ w'.cell? ⟨k, 1, none⟩ = some (.int .i64 n) ∧ w'.cell? ⟨k, 2, none⟩ = some (.int .i64 m) ∧ w'.cell? ⟨k, 3, none⟩ = some (.slice ab b.length cb) ∧ w'.cell? ⟨k, 4, none⟩ = some (.slice al l.length cl)) (by kernel_rfl) (HXC.out _ _ HD1.out rfl rfl) (fun hHeld => ?_)
    refine wpAnyH_take (i := 0) (oi := ⟨some 69, .move (.tmp 0), 115, "law.go:100", #[], none⟩) (v := ?_) rfl (by kernel_rfl) (by kernel_rfl) (by kernel_rfl) (fun _ _ _ h => h) (Or.inl ⟨by rfl, ?_⟩) (by assumption) ?_
    rotate_left
    · (intro w hSw; (try dsimp only at hSw); go_simp; try with_reducible rfl)
    simp only [Act.put, List.setIfInBounds_toArray, List.set_cons_zero, List.set_cons_succ]
    refine wpAnyH_take (i := 1) (oi := ⟨some 70, .nilCheck (.tmp 69), 0, "law.go:100", #[⟨0, .data⟩], none⟩) (v := ?_) rfl (by kernel_rfl) (by kernel_rfl) (by kernel_rfl) (fun _ _ _ h => h) (Or.inl ⟨by rfl, ?_⟩) (by assumption) ?_
    rotate_left
    · (intro w hSw; (try dsimp only at hSw); go_simp; try with_reducible rfl)
    simp only [Act.put, List.setIfInBounds_toArray, List.set_cons_zero, List.set_cons_succ]
    refine wpAnyH_take (i := 2) (oi := ⟨some 71, .fieldAddr 118 (.tmp 70) 1, 0, "law.go:100", #[⟨1, .data⟩], none⟩) (v := ?_) rfl (by kernel_rfl) (by kernel_rfl) (by kernel_rfl) (fun _ _ _ h => h) (Or.inl ⟨by rfl, ?_⟩) (by assumption) ?_
    rotate_left
    · (intro w hSw; (try dsimp only at hSw); go_simp; try with_reducible rfl)
    simp only [Act.put, List.setIfInBounds_toArray, List.set_cons_zero, List.set_cons_succ]
    refine wpAnyH_take (i := 3) (oi := ⟨some 72, .load 93 (.tmp 71), 93, "law.go:100", #[⟨2, .data⟩], none⟩) (v := ?_) rfl (by kernel_rfl) (by kernel_rfl) (by kernel_rfl) (fun _ _ _ h => h) (Or.inl ⟨by rfl, ?_⟩) (by assumption) ?_
    rotate_left
    · (intro w hSw; (try dsimp only at hSw); go_simp; try with_reducible rfl)
    simp only [Act.put, List.setIfInBounds_toArray, List.set_cons_zero, List.set_cons_succ]
    refine wpAnyH_take (i := 4) (oi := ⟨some 73, .fieldAddr 102 (.tmp 3) 1, 0, "law.go:100", #[], none⟩) (v := ?_) rfl (by kernel_rfl) (by kernel_rfl) (by kernel_rfl) (fun _ _ _ h => h) (Or.inl ⟨by rfl, ?_⟩) (by assumption) ?_
    rotate_left
    · (intro w hSw; (try dsimp only at hSw); go_simp; try with_reducible rfl)
    simp only [Act.put, List.setIfInBounds_toArray, List.set_cons_zero, List.set_cons_succ]
    refine wpAnyH_take (i := 5) (oi := ⟨some 74, .load 3 (.tmp 73), 3, "law.go:100", #[⟨4, .data⟩], none⟩) (v := ?_) rfl (by kernel_rfl) (by kernel_rfl) (by kernel_rfl) (fun _ _ _ h => h) (Or.inl ⟨by rfl, ?_⟩) (by assumption) ?_
    rotate_left
    · (intro w hSw; (try dsimp only at hSw); go_simp; try with_reducible rfl)
    simp only [Act.put, List.setIfInBounds_toArray, List.set_cons_zero, List.set_cons_succ]
    refine wpAnyH_take (i := 6) (oi := ⟨some 75, .fieldAddr 102 (.tmp 3) 2, 0, "law.go:100", #[], none⟩) (v := ?_) rfl (by kernel_rfl) (by kernel_rfl) (by kernel_rfl) (fun _ _ _ h => h) (Or.inl ⟨by rfl, ?_⟩) (by assumption) ?_
    rotate_left
    · (intro w hSw; (try dsimp only at hSw); go_simp; try with_reducible rfl)
    simp only [Act.put, List.setIfInBounds_toArray, List.set_cons_zero, List.set_cons_succ]
    refine wpAnyH_take (i := 7) (oi := ⟨some 76, .load 2 (.tmp 75), 2, "law.go:100", #[⟨6, .data⟩], none⟩) (v := ?_) rfl (by kernel_rfl) (by kernel_rfl) (by kernel_rfl) (fun _ _ _ h => h) (Or.inl ⟨by rfl, ?_⟩) (by assumption) ?_
    rotate_left
    · (intro w hSw; (try dsimp only at hSw); go_simp; try with_reducible rfl)
    simp only [Act.put, List.setIfInBounds_toArray, List.set_cons_zero, List.set_cons_succ]
    refine wpAnyH_take (i := 8) (oi := ⟨some 77, .move (.tmp 9), 22, "law.go:100", #[], none⟩) (v := ?_) rfl (by kernel_rfl) (by kernel_rfl) (by kernel_rfl) (fun _ _ _ h => h) (Or.inl ⟨by rfl, ?_⟩) (by assumption) ?_
    rotate_left
    · (intro w hSw; (try dsimp only at hSw); go_simp; try with_reducible rfl)
    simp only [Act.put, List.setIfInBounds_toArray, List.set_cons_zero, List.set_cons_succ]
    refine wpAnyH_take (i := 9) (oi := ⟨some 78, .fieldAddr 102 (.tmp 3) 4, 0, "law.go:100", #[], none⟩) (v := ?_) rfl (by kernel_rfl) (by kernel_rfl) (by kernel_rfl) (fun _ _ _ h => h) (Or.inl ⟨by rfl, ?_⟩) (by assumption) ?_
    rotate_left
    · (intro w hSw; (try dsimp only at hSw); go_simp; try with_reducible rfl)
    simp only [Act.put, List.setIfInBounds_toArray, List.set_cons_zero, List.set_cons_succ]
    refine wpAnyH_take (i := 10) (oi := ⟨some 79, .load 39 (.tmp 78), 39, "law.go:100", #[⟨9, .data⟩], none⟩) (v := ?_) rfl (by kernel_rfl) (by kernel_rfl) (by kernel_rfl) (fun _ _ _ h => h) (Or.inl ⟨by rfl, ?_⟩) (by assumption) ?_
    rotate_left
    · (intro w hSw; (try dsimp only at hSw); go_simp; try with_reducible rfl)
    simp only [Act.put, List.setIfInBounds_toArray, List.set_cons_zero, List.set_cons_succ]
    refine wpAnyH_ready (rs := [11]) (by kernel_rfl) (by simp) ?_
    refine AllReadyH.cons (o := ⟨some 80, .call { callee := .value (.func 68), args := #[.tmp 72, .tmp 74, .tmp 76, .tmp 77, .tmp 79], argTypes := #[93, 3, 2, 22, 39] }, 32, "law.go:100", #[⟨3, .data⟩, ⟨5, .data⟩, ⟨7, .data⟩, ⟨8, .data⟩, ⟨10, .data⟩], none⟩) rfl (fun K hK => ?_) AllReadyH.nil
    go_simp
    refine (KA.out _ _ HD1.out rfl rfl rfl).mono ?_
    rintro e wa ⟨rfl, hA⟩
    try simp only []
    refine hK.out _ _ (HXC.out _ _ hA rfl rfl) (fun _ => ?_)
    clear hK K
    try simp only [Act.put, List.setIfInBounds_toArray, List.set_cons_zero, List.set_cons_succ]
    refine wpAnyH_take (i := 12) (oi := ⟨some 10, .assign (.tmp 80), 32, "law.go:100", #[⟨11, .data⟩, ⟨11, .chain⟩, ⟨0, .phase⟩, ⟨1, .phase⟩, ⟨2, .phase⟩, ⟨3, .phase⟩, ⟨4, .phase⟩, ⟨5, .phase⟩, ⟨6, .phase⟩, ⟨7, .phase⟩, ⟨8, .phase⟩, ⟨9, .phase⟩, ⟨10, .phase⟩, ⟨11, .phase⟩], none⟩) (v := ?_) rfl (by kernel_rfl) (by kernel_rfl) (by kernel_rfl) (fun _ _ _ h => h) (Or.inl ⟨by rfl, ?_⟩) (by assumption) ?_
    rotate_left
    · (intro w hSw; (try dsimp only at hSw); go_simp; try with_reducible rfl)
    simp only [Act.put, List.setIfInBounds_toArray, List.set_cons_zero, List.set_cons_succ]
    refine wpAnyH_done (by kernel_rfl) ?_ _
    have HA := Lib.hid hA
    have y7 := (HXC.out _ _ HA.out rfl rfl).2.2.2.2.2.2.2.1
    clear hA HD1
    go_wp2_with fail
    refine (KC.out _ _ HA.out rfl).mono ?_
    rintro e wb ⟨rfl, rfl⟩
    clear y7
    go_wp2_with fail
    refine (KE.out _ _ HA.out rfl).mono ?_
    rintro e w5 ⟨rfl, h5⟩
    have HD2 := Lib.hid (h5.still (Mod.drew _ _))
    clear h5 HA
    go_upto_region 16 with fail
    refine wp_region_held_drew (S := fun w' => w'.cell? ⟨x, 0, none⟩ = some (.pointer (some ⟨d, 0, none⟩)) ∧ w'.cell? ⟨x, 1, none⟩ = some (.pointer (some ⟨p, 0, none⟩)) ∧ w'.cell? ⟨x, 2, none⟩ = some (.pointer (some ⟨r, 0, none⟩)) ∧ w'.cell? ⟨x, 3, none⟩ = some (.pointer (some ⟨q, 0, none⟩)) ∧ w'.cell? ⟨x, 4, none⟩ = some (.int .i64 (size : Int)) ∧ w'.cell? ⟨k, 1, none⟩ = some (.int .i64 n) ∧ w'.cell? ⟨k, 2, none⟩ = some (.int .i64 m) ∧ w'.cell? ⟨k, 3, none⟩ = some (.slice ab b.length cb) ∧ w'.cell? ⟨k, 4, none⟩ = some (.slice al l.length cl)) (by kernel_rfl) (HXC.out _ _ HD2.out rfl rfl) (fun hHeld => ?_)
    refine wpAnyH_take (i := 0) (oi := ⟨some 87, .move (.tmp 11), 4, "law.go:103", #[], none⟩) (v := ?_) rfl (by kernel_rfl) (by kernel_rfl) (by kernel_rfl) (fun _ _ _ h => h) (Or.inl ⟨by rfl, ?_⟩) (by assumption) ?_
    rotate_left
    · (intro w hSw; (try dsimp only at hSw); go_simp; try with_reducible rfl)
    simp only [Act.put, List.setIfInBounds_toArray, List.set_cons_zero, List.set_cons_succ]
    refine wpAnyH_take (i := 1) (oi := ⟨some 88, .move (.tmp 87), 4, "law.go:103", #[⟨0, .data⟩], none⟩) (v := ?_) rfl (by kernel_rfl) (by kernel_rfl) (by kernel_rfl) (fun _ _ _ h => h) (Or.inl ⟨by rfl, ?_⟩) (by assumption) ?_
    rotate_left
    · (intro w hSw; (try dsimp only at hSw); go_simp; try with_reducible rfl)
    simp only [Act.put, List.setIfInBounds_toArray, List.set_cons_zero, List.set_cons_succ]
    refine wpAnyH_take (i := 2) (oi := ⟨some 89, .move (.tmp 10), 32, "law.go:103", #[⟨1, .guard⟩], some (1, true)⟩) (v := ?_) rfl (by kernel_rfl) (by kernel_rfl) (by kernel_rfl) (fun _ _ _ h => h) (Or.inl ⟨by rfl, ?_⟩) (by assumption) ?_
    rotate_left
    · (intro w hSw; (try dsimp only at hSw); go_simp; try with_reducible rfl)
    simp only [Act.put, List.setIfInBounds_toArray, List.set_cons_zero, List.set_cons_succ]
    refine wpAnyH_take (i := 3) (oi := ⟨some 90, .move (.tmp 0), 115, "law.go:103", #[⟨1, .guard⟩], some (1, true)⟩) (v := ?_) rfl (by kernel_rfl) (by kernel_rfl) (by kernel_rfl) (fun _ _ _ h => h) (Or.inl ⟨by rfl, ?_⟩) (by assumption) ?_
    rotate_left
    · (intro w hSw; (try dsimp only at hSw); go_simp; try with_reducible rfl)
    simp only [Act.put, List.setIfInBounds_toArray, List.set_cons_zero, List.set_cons_succ]
    refine wpAnyH_take (i := 4) (oi := ⟨some 91, .nilCheck (.tmp 90), 0, "law.go:103", #[⟨3, .data⟩, ⟨1, .guard⟩], some (1, true)⟩) (v := ?_) rfl (by kernel_rfl) (by kernel_rfl) (by kernel_rfl) (fun _ _ _ h => h) (Or.inl ⟨by rfl, ?_⟩) (by assumption) ?_
    rotate_left
    · (intro w hSw; (try dsimp only at hSw); go_simp; try with_reducible rfl)
    simp only [Act.put, List.setIfInBounds_toArray, List.set_cons_zero, List.set_cons_succ]
    refine wpAnyH_take (i := 5) (oi := ⟨some 92, .fieldAddr 118 (.tmp 91) 3, 0, "law.go:103", #[⟨4, .data⟩, ⟨1, .guard⟩], some (1, true)⟩) (v := ?_) rfl (by kernel_rfl) (by kernel_rfl) (by kernel_rfl) (fun _ _ _ h => h) (Or.inl ⟨by rfl, ?_⟩) (by assumption) ?_
    rotate_left
    · (intro w hSw; (try dsimp only at hSw); go_simp; try with_reducible rfl)
    simp only [Act.put, List.setIfInBounds_toArray, List.set_cons_zero, List.set_cons_succ]
    refine wpAnyH_take (i := 6) (oi := ⟨some 93, .load 116 (.tmp 92), 116, "law.go:103", #[⟨5, .data⟩, ⟨1, .guard⟩], some (1, true)⟩) (v := ?_) rfl (by kernel_rfl) (by kernel_rfl) (by kernel_rfl) (fun _ _ _ h => h) (Or.inl ⟨by rfl, ?_⟩) (by assumption) ?_
    rotate_left
    · (intro w hSw; (try dsimp only at hSw); go_simp; try with_reducible rfl)
    simp only [Act.put, List.setIfInBounds_toArray, List.set_cons_zero, List.set_cons_succ]
    refine wpAnyH_take (i := 7) (oi := ⟨some 94, .fieldAddr 102 (.tmp 3) 1, 0, "law.go:103", #[⟨1, .guard⟩], some (1, true)⟩) (v := ?_) rfl (by kernel_rfl) (by kernel_rfl) (by kernel_rfl) (fun _ _ _ h => h) (Or.inl ⟨by rfl, ?_⟩) (by assumption) ?_
    rotate_left
    · (intro w hSw; (try dsimp only at hSw); go_simp; try with_reducible rfl)
    simp only [Act.put, List.setIfInBounds_toArray, List.set_cons_zero, List.set_cons_succ]
    refine wpAnyH_take (i := 8) (oi := ⟨some 95, .load 3 (.tmp 94), 3, "law.go:103", #[⟨7, .data⟩, ⟨1, .guard⟩], some (1, true)⟩) (v := ?_) rfl (by kernel_rfl) (by kernel_rfl) (by kernel_rfl) (fun _ _ _ h => h) (Or.inl ⟨by rfl, ?_⟩) (by assumption) ?_
    rotate_left
    · (intro w hSw; (try dsimp only at hSw); go_simp; try with_reducible rfl)
    simp only [Act.put, List.setIfInBounds_toArray, List.set_cons_zero, List.set_cons_succ]
    refine wpAnyH_take (i := 9) (oi := ⟨some 96, .fieldAddr 102 (.tmp 3) 2, 0, "law.go:103", #[⟨1, .guard⟩], some (1, true)⟩) (v := ?_) rfl (by kernel_rfl) (by kernel_rfl) (by kernel_rfl) (fun _ _ _ h => h) (Or.inl ⟨by rfl, ?_⟩) (by assumption) ?_
    rotate_left
    · (intro w hSw; (try dsimp only at hSw); go_simp; try with_reducible rfl)
    simp only [Act.put, List.setIfInBounds_toArray, List.set_cons_zero, List.set_cons_succ]
    refine wpAnyH_take (i := 10) (oi := ⟨some 97, .load 2 (.tmp 96), 2, "law.go:103", #[⟨9, .data⟩, ⟨1, .guard⟩], some (1, true)⟩) (v := ?_) rfl (by kernel_rfl) (by kernel_rfl) (by kernel_rfl) (fun _ _ _ h => h) (Or.inl ⟨by rfl, ?_⟩) (by assumption) ?_
    rotate_left
    · (intro w hSw; (try dsimp only at hSw); go_simp; try with_reducible rfl)
    simp only [Act.put, List.setIfInBounds_toArray, List.set_cons_zero, List.set_cons_succ]
    refine wpAnyH_take (i := 11) (oi := ⟨some 98, .fieldAddr 102 (.tmp 3) 3, 0, "law.go:103", #[⟨1, .guard⟩], some (1, true)⟩) (v := ?_) rfl (by kernel_rfl) (by kernel_rfl) (by kernel_rfl) (fun _ _ _ h => h) (Or.inl ⟨by rfl, ?_⟩) (by assumption) ?_
    rotate_left
    · (intro w hSw; (try dsimp only at hSw); go_simp; try with_reducible rfl)
    simp only [Act.put, List.setIfInBounds_toArray, List.set_cons_zero, List.set_cons_succ]
    refine wpAnyH_take (i := 12) (oi := ⟨some 99, .load 22 (.tmp 98), 22, "law.go:103", #[⟨11, .data⟩, ⟨1, .guard⟩], some (1, true)⟩) (v := ?_) rfl (by kernel_rfl) (by kernel_rfl) (by kernel_rfl) (fun _ _ _ h => h) (Or.inl ⟨by rfl, ?_⟩) (by assumption) ?_
    rotate_left
    · (intro w hSw; (try dsimp only at hSw); go_simp; try with_reducible rfl)
    simp only [Act.put, List.setIfInBounds_toArray, List.set_cons_zero, List.set_cons_succ]
    refine wpAnyH_take (i := 13) (oi := ⟨some 100, .fieldAddr 102 (.tmp 3) 4, 0, "law.go:103", #[⟨1, .guard⟩], some (1, true)⟩) (v := ?_) rfl (by kernel_rfl) (by kernel_rfl) (by kernel_rfl) (fun _ _ _ h => h) (Or.inl ⟨by rfl, ?_⟩) (by assumption) ?_
    rotate_left
    · (intro w hSw; (try dsimp only at hSw); go_simp; try with_reducible rfl)
    simp only [Act.put, List.setIfInBounds_toArray, List.set_cons_zero, List.set_cons_succ]
    refine wpAnyH_take (i := 14) (oi := ⟨some 101, .load 39 (.tmp 100), 39, "law.go:103", #[⟨13, .data⟩, ⟨1, .guard⟩], some (1, true)⟩) (v := ?_) rfl (by kernel_rfl) (by kernel_rfl) (by kernel_rfl) (fun _ _ _ h => h) (Or.inl ⟨by rfl, ?_⟩) (by assumption) ?_
    rotate_left
    · (intro w hSw; (try dsimp only at hSw); go_simp; try with_reducible rfl)
    simp only [Act.put, List.setIfInBounds_toArray, List.set_cons_zero, List.set_cons_succ]
    refine wpAnyH_ready (rs := [15]) (by kernel_rfl) (by simp) ?_
    refine AllReadyH.cons (o := ⟨some 102, .call { callee := .value (.func 117), args := #[.tmp 93, .tmp 95, .tmp 97, .tmp 99, .tmp 101], argTypes := #[116, 3, 2, 22, 39] }, 32, "law.go:103", #[⟨6, .data⟩, ⟨8, .data⟩, ⟨10, .data⟩, ⟨12, .data⟩, ⟨14, .data⟩, ⟨1, .chain⟩, ⟨1, .guard⟩], some (1, true)⟩) rfl (fun K hK => ?_) AllReadyH.nil
    go_simp
    refine (KB.out _ _ HD2.out rfl rfl).mono ?_
    rintro e wb ⟨rfl, hB⟩
    try simp only []
    refine hK.out _ _ (HXC.out _ _ hB rfl rfl) (fun _ => ?_)
    clear hK K
    try simp only [Act.put, List.setIfInBounds_toArray, List.set_cons_zero, List.set_cons_succ]
    refine wpAnyH_take (i := 16) (oi := ⟨some 103, .binOp .eql 32 (.tmp 89) (.tmp 102) 32, 4, "law.go:103", #[⟨2, .data⟩, ⟨15, .data⟩, ⟨1, .guard⟩], some (1, true)⟩) (v := ?_) rfl (by kernel_rfl) (by kernel_rfl) (by kernel_rfl) (fun _ _ _ h => h) (Or.inl ⟨by rfl, ?_⟩) (by assumption) ?_
    rotate_left
    · (intro w hSw; (try dsimp only at hSw); go_simp; try with_reducible rfl)
    simp only [Act.put, List.setIfInBounds_toArray, List.set_cons_zero, List.set_cons_succ]
    refine wpAnyH_take (i := 17) (oi := ⟨some 104, .pick (.tmp 88) (.tmp 103) (.const (.bool false)), 4, "law.go:103", #[⟨1, .data⟩, ⟨16, .data⟩], none⟩) (v := ?_) rfl (by kernel_rfl) (by kernel_rfl) (by kernel_rfl) (fun _ _ _ h => h) (Or.inl ⟨by rfl, ?_⟩) (by assumption) ?_
    rotate_left
    · (intro w hSw; (try dsimp only at hSw); go_simp; try with_reducible rfl)
    simp only [Act.put, List.setIfInBounds_toArray, List.set_cons_zero, List.set_cons_succ]
    refine wpAnyH_take (i := 18) (oi := ⟨some 4, .assign (.tmp 104), 4, "law.go:103", #[⟨17, .data⟩, ⟨15, .chain⟩, ⟨0, .phase⟩, ⟨1, .phase⟩, ⟨2, .phase⟩, ⟨3, .phase⟩, ⟨4, .phase⟩, ⟨5, .phase⟩, ⟨6, .phase⟩, ⟨7, .phase⟩, ⟨8, .phase⟩, ⟨9, .phase⟩, ⟨10, .phase⟩, ⟨11, .phase⟩, ⟨12, .phase⟩, ⟨13, .phase⟩, ⟨14, .phase⟩, ⟨15, .phase⟩, ⟨16, .phase⟩, ⟨17, .phase⟩], none⟩) (v := ?_) rfl (by kernel_rfl) (by kernel_rfl) (by kernel_rfl) (fun _ _ _ h => h) (Or.inl ⟨by rfl, ?_⟩) (by assumption) ?_
    rotate_left
    · (intro w hSw; (try dsimp only at hSw); go_simp; try with_reducible rfl)
    simp only [Act.put, List.setIfInBounds_toArray, List.set_cons_zero, List.set_cons_succ]
    refine wpAnyH_done (by kernel_rfl) ?_ _
    go_wp2_with fail
    go_ret
    exact ⟨rfl, p, q, hB.take 5⟩
end
end Go.Proofs.Ytdinnkacilgmmaa
