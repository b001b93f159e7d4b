/- The reference's disk: New, Load, Image, Read. -/
import Derived.Test.YtdinnkacilgmmaaRDisk0
import Derived.Test.YtdinnkacilgmmaaOrd
import Derived.IntWalk
namespace Go.Proofs.Ytdinnkacilgmmaa
open Go.RowKit

theorem OwnB.to {w : World} {B : Nat} {v : Value} {l l' : List UInt8} (h : OwnB w B v l) (e : l = l') : OwnB w B v l' := e ▸ h
theorem sect_full (b : List UInt8) (h : b.length = 256) : sect b = b := by unfold sect; rw [h]; simp

/-- a disk of the reference that is being made -/
structure RB (w0 w : World) (H p : Nat) (vs : Value) (xs : List Value) (f : Nat → List UInt8) : Prop where
  at_ : w.heap[p]? = some (.cells #[vs, .slice none 0 0, .bool false, .bool false, .bool false] 69 (0, 0))
  safe : w.ownsRow H 22 1 vs xs.length xs
  ex : ∀ i (h : i < xs.length), OwnB w H xs[i] (f i)
  mod : Mod (fun _ => False) w0 w

theorem RB.push {w0 wr wa w3 : World} {H p : Nat} {vs v v' : Value} {xs : List Value} {f : Nat → List UInt8} (h : RB w0 wr H p vs xs f) (hH : w0.heap.size ≤ H) (hp : w0.heap.size ≤ p) (ma : Mod (fun _ => False) wr wa) (hv : OwnB wa H v (f xs.length))
    {o : Obj} (k1 : w3.ownsRow H 22 1 v' (xs.length + 1) (xs ++ [v])) (k2 : Mod (fun k => some k = vs.ownBlock) (wa.alloc o) w3) : RB w0 (w3.setCell ⟨p, 0, none⟩ v') H p v' (xs ++ [v]) f := by
  have m1 : Mod (fun _ => False) wr (wa.alloc o) := ma.trans' (Mod.alloc _ _ _)
  have hpv : vs.ownBlock ≠ some p := own_ne h.safe h.at_ (by decide)
  have a3 := k2.obj (m1.obj h.at_ id) (fun e => hpv e.symm)
  have a4 := setCell_block (i := 0) a3 v'
  have m3 : Mod (fun k => k = p) w3 (w3.setCell ⟨p, 0, none⟩ v') := Mod.setCell _ _ _ rfl
  have keep : ∀ {u : Value} {l : List UInt8}, OwnB (wa.alloc o) H u l → OwnB (w3.setCell ⟨p, 0, none⟩ v') H u l := fun {u l} hu => by
    have hty : ∀ k, u.ownBlock = some k → some k ≠ vs.ownBlock := fun k hk e => by
      obtain ⟨c, hc⟩ := own_type hu hk
      exact own_ne (owns_mod h.safe m1 (fun _ _ => id)) hc (by decide) e.symm
    have h3 := hu.mod k2 hty
    refine h3.mod m3 (fun k hk e => ?_)
    subst e
    exact own_ne h3 a3 (by decide) hk
  refine ⟨by simpa using a4, ?_, fun i hi => ?_, ?_⟩
  · rw [List.length_append]
    exact owns_mod k1 m3 (fun k hk e => by subst e; exact own_ne k1 a3 (by decide) hk)
  · by_cases e : i < xs.length
    · rw [List.getElem_append_left e]
      exact keep ((h.ex i e).mod m1 (fun _ _ => id))
    · have : i = xs.length := by simp at hi; omega
      subst this
      rw [List.getElem_append_right (Nat.le_refl _)]
      simpa using keep (hv.mod (Mod.alloc (fun _ => False) _ _) (fun _ _ => id))
  · refine ((h.mod.trans m1 (fun _ _ e => e)).trans k2 (fun i hi e => ?_)).trans m3 (fun i hi e => ?_)
    · have := (World.ownsRow.lt h.safe i e.symm).1; omega
    · omega

theorem RB.start {w0 : World} {H : Nat} (f : Nat → List UInt8) : RB w0 (w0.alloc (.cells #[.slice none 0 0, .slice none 0 0, .bool false, .bool false, .bool false] 69)) H w0.heap.size (.slice none 0 0) [] f :=
  ⟨heap_alloc_new w0 _, World.ownsRow_nil _ _ _ _, fun i h => by simp at h, Mod.alloc _ _ _⟩

def RBorn (w : World) (B : Nat) (v : Value) (D : Dsk) (w' : World) : Prop := ∃ p F, v = .pointer (some ⟨p, 0, none⟩) ∧ RDiskAt w' B p D F ∧ Mod (fun _ => False) w w' ∧ ∀ k, F k → w.heap.size ≤ k

theorem RB.born {w0 w : World} {B : Nat} {vs : Value} {xs : List Value} {l : List UInt8} {f : Nat → List UInt8} (hB : B ≤ w0.heap.size) (h : RB w0 w w0.heap.size w0.heap.size vs xs f) (hi : imageOk l.length) (hx : xs.length = l.length / 256) (hf : ∀ i, i < xs.length → f i = sector l i) :
    RBorn w0 B (.pointer (some ⟨w0.heap.size, 0, none⟩)) (Dsk.of l) w := by
  refine ⟨w0.heap.size, _, rfl, ⟨vs, .slice none 0 0, xs, [], ⟨Dsk.of_wf l hi, h.at_, hB, owns_weaken h.safe hB, hx, fun i hi => ?_, World.ownsRow_nil _ _ _ _, rfl, fun i h => by simp at h⟩, rfl⟩, h.mod, ?_⟩
  · rw [show sector (Dsk.of l).safe i = f i from (hf i hi).symm]
    exact (h.ex i hi).weaken hB
  · rintro k (e | e | e | ⟨x, hx, e⟩ | ⟨y, hy, e⟩)
    · omega
    · exact (World.ownsRow.lt h.safe k e).1
    · simp [Value.ownBlock] at e
    · obtain ⟨i, hi, rfl⟩ := List.getElem_of_mem hx
      exact (World.ownsRow.lt (h.ex i hi) k e).1
    · cases hy

theorem slices_oneCell (a : Option Addr) (n c : Nat) : ∀ u ∈ [Value.slice a n c], u.oneCell' = true := by
  intro u hu
  rw [List.mem_singleton.1 hu]
  rfl

theorem zeros_sector (n i : Nat) (h : i < n) : sector (List.replicate (n * 256) 0) i = sect [] := by
  unfold sector sect
  rw [List.drop_replicate, List.take_replicate, List.length_nil, List.nil_append, Nat.min_eq_left (by rw [← Nat.sub_mul]; have : 1 ≤ n - i := by omega
                                                                                                      omega)]

set_option maxHeartbeats 1000000 in
set_option maxRecDepth 100000 in
theorem rnew_ok {w : World} {B : Nat} (hB : B ≤ w.heap.size) (n : Nat) (h1 : 1 ≤ n) (h2 : n ≤ 4096) :
    Calls Try.prog 45 #[.int .i64 (n : Int)] w fun e w' => ∃ v, e = .returned (.tuple #[v, .int .i64 0]) ∧ RBorn w B v (Dsk.of (List.replicate (n * 256) 0)) w' := by
  have hi : imageOk (List.replicate (n * 256) (0 : UInt8)).length := by rw [List.length_replicate]; unfold imageOk; omega
  have hlo : (1 : Int) ≤ (n : Int) := by omega
  have hhi : (n : Int) ≤ 4096 := by omega
  have hr0 := RB.start (w0 := w) (H := w.heap.size) (fun _ => sect [])
  have HR0 := Lib.hid hr0
  clear hr0
  go_enter Try.func45, Try.ntmps45
  go_wp2_with fail
  go_loopw [5] (fun v5 wr => ∃ (i : Nat) (vs : Value) (xs : List Value), i ≤ n ∧ v5 = .int .i64 (i : Int) ∧ xs.length = i ∧ RB w wr w.heap.size w.heap.size vs xs (fun _ => sect [])) (fun v5 _ => n - (intOf v5).toNat)
  case atStart => exact ⟨0, _, [], Nat.zero_le _, rfl, rfl, HR0.out⟩
  case round =>
    obtain ⟨i, vs, xs, hin, rfl, hxl, hR⟩ := hrel
    clear HR0
    by_cases hlt : i < n
    · have hlt' : (i : Int) < (n : Int) := by omega
      go_upto_region 7 with fail
      have md : Mod (fun _ => False) wr wr.drew := Mod.drew _ _
      obtain ⟨asv, csv, evs, -, -, -⟩ := owns_shape hR.safe
      subst evs
      have hcell := cell_of_row wr w.heap.size 0 _ 69 (0, 0) hR.at_
      have hat := hR.at_
      have hnp : (Value.slice asv xs.length csv).ownBlock ≠ some w.heap.size := own_ne hR.safe hat (by decide)
      have c0 : wr.drew.cell? ⟨w.heap.size, 0, none⟩ = some (.slice asv xs.length csv) := by simpa using hcell
      have hsz := hR.mod.size
      have HX := Lib.hid hxl
      have HR := Lib.hid hR
      have HAT := Lib.hid hat
      have HNP := Lib.hid hnp
      clear hcell hat hnp hR hxl
      refine wp_region_held_drew (S := fun _ => True) (by kernel_rfl) (trivial) (fun hHeld => ?_)
      refine wpAnyH_take (i := 0) (oi := { dst := some 19, op := Op.move (Operand.tmp 4), type := 60, pos := "ref.go:40", after := #[], guard := none }) (v := ?_) rfl (by kernel_rfl) (by kernel_rfl) (by kernel_rfl) (fun _ _ _ h => h) (Or.inl ⟨by rfl, ?_⟩) (by assumption) ?_
      rotate_left
      · (intro w hSw; (try dsimp only at hSw); go_simp; try with_reducible rfl)
      simp only [Act.put, List.setIfInBounds_toArray, List.set_cons_zero, List.set_cons_succ]
      refine wpAnyH_take (i := 1) (oi := { dst := some 20, op := Op.move (Operand.tmp 4), type := 60, pos := "ref.go:40", after := #[], guard := none }) (v := ?_) rfl (by kernel_rfl) (by kernel_rfl) (by kernel_rfl) (fun _ _ _ h => h) (Or.inl ⟨by rfl, ?_⟩) (by assumption) ?_
      rotate_left
      · (intro w hSw; (try dsimp only at hSw); go_simp; try with_reducible rfl)
      simp only [Act.put, List.setIfInBounds_toArray, List.set_cons_zero, List.set_cons_succ]
      refine wpAnyH_take (i := 2) (oi := { dst := some 21, op := Op.nilCheck (Operand.tmp 20), type := 0, pos := "ref.go:40", after := #[{ on := 1, ground := Ground.data }], guard := none }) (v := ?_) rfl (by kernel_rfl) (by kernel_rfl) (by kernel_rfl) (fun _ _ _ h => h) (Or.inl ⟨by rfl, ?_⟩) (by assumption) ?_
      rotate_left
      · (intro w hSw; (try dsimp only at hSw); go_simp; try with_reducible rfl)
      simp only [Act.put, List.setIfInBounds_toArray, List.set_cons_zero, List.set_cons_succ]
      refine wpAnyH_take (i := 3) (oi := { dst := some 22, op := Op.fieldAddr 69 (Operand.tmp 21) 0, type := 0, pos := "ref.go:40", after := #[{ on := 2, ground := Ground.data }], guard := none }) (v := ?_) rfl (by kernel_rfl) (by kernel_rfl) (by kernel_rfl) (fun _ _ _ h => h) (Or.inl ⟨by rfl, ?_⟩) (by assumption) ?_
      rotate_left
      · (intro w hSw; (try dsimp only at hSw); go_simp; try with_reducible rfl)
      simp only [Act.put, List.setIfInBounds_toArray, List.set_cons_zero, List.set_cons_succ]
      refine wpAnyH_ready (rs := [4, 5]) (by kernel_rfl) (by simp) ?_
      refine AllReadyH.cons (o := { dst := some 23, op := Op.load 66 (Operand.tmp 22), type := 66, pos := "ref.go:40", after := #[{ on := 3, ground := Ground.data }], guard := none }) rfl (fun K hK => ?_) (AllReadyH.cons (o := { dst := some 24, op := Op.call { callee := Callee.value (Operand.func 89), args := #[Operand.const (Value.slice none 0 0)], argTypes := #[22] }, type := 22, pos := "ref.go:40", after := #[], guard := none }) rfl (fun K hK => ?_) AllReadyH.nil)
      ·
        go_simp
        try simp only []
        refine hK.out _ _ trivial (fun hHeld => ?_)
        clear hK K
        try simp only [Act.put, List.setIfInBounds_toArray, List.set_cons_zero, List.set_cons_succ]
        refine wpAnyH_ready (rs := [5]) (by kernel_rfl) (by simp) ?_
        refine AllReadyH.cons (o := { dst := some 24, op := Op.call { callee := Callee.value (Operand.func 89), args := #[Operand.const (Value.slice none 0 0)], argTypes := #[22] }, type := 22, pos := "ref.go:40", after := #[], guard := none }) rfl (fun K hK => ?_) AllReadyH.nil
        go_simp
        refine (rfull_n none [] 0 0 rfl _ w.heap.size (by simp; omega) (BytesAt.nil _ _) (by decide)).mono ?_
        rintro e wa ⟨v, rfl, hv, hmv, -⟩
        have hca : wa.cell? ⟨w.heap.size, 0, none⟩ = some (.slice asv xs.length csv) := hmv.cell' c0 id
        have hcb : ∀ X, (wa.alloc X).cell? ⟨w.heap.size, 0, none⟩ = some (.slice asv xs.length csv) := fun X => (Mod.alloc (fun _ => False) wa X).cell' hca id
        obtain ⟨av, cv, ev, -, -, -⟩ := hv.shape
        subst ev
        try simp only []
        refine hK.out _ _ (trivial) (fun _ => ?_)
        clear hK K
        try simp only [Act.put, List.setIfInBounds_toArray, List.set_cons_zero, List.set_cons_succ]
        refine wpAnyH_ready (rs := [6]) (by kernel_rfl) (by simp) ?_
        refine AllReadyH.cons (o := { dst := some 25, op := Op.buildSlice 66 1 #[(0, Operand.tmp 24)], type := 66, pos := "ref.go:40", after := #[{ on := 5, ground := Ground.data }], guard := none }) rfl (fun K hK => ?_) AllReadyH.nil
        go_simp
        try simp only []
        refine hK.out _ _ trivial (fun hHeld => ?_)
        clear hK K
        try simp only [Act.put, List.setIfInBounds_toArray, List.set_cons_zero, List.set_cons_succ]
        refine wpAnyH_ready (rs := [7]) (by kernel_rfl) (by simp) ?_
        refine AllReadyH.cons (o := { dst := some 26, op := Op.call { callee := Callee.builtin Builtin.append, args := #[Operand.tmp 23, Operand.tmp 25], argTypes := #[66, 66] }, type := 66, pos := "ref.go:40", after := #[{ on := 4, ground := Ground.data }, { on := 6, ground := Ground.data }, { on := 5, ground := Ground.chain }], guard := none }) rfl (fun K hK => ?_) AllReadyH.nil
        clear hcb hca
        refine appR_step 66 22 _ 1 24 Try.underlying66 info22 rfl (by decide) (by decide) rfl _ _ rfl w.heap.size (.slice asv xs.length csv) xs.length xs rfl (owns_mod HR.out.safe (md.trans' (hmv.trans' (Mod.alloc _ _ _))) (fun _ _ => id)) ⟨wa.heap.size, 0, none⟩ 1 1 _ rfl rfl (cells_new wa _ 22) (slices_oneCell _ _ _) (by rw [HX.out]; omega) (by have := hmv.size; simp at this ⊢; omega) ?_
        intro v' w3 k1 k2 _
        obtain ⟨a3, c3, e3, -, -, -⟩ := owns_shape k1
        subst e3
        have hat3 := k2.obj ((md.trans' (hmv.trans' (Mod.alloc _ _ _))).obj HAT.out id) (fun e => HNP.out e.symm)
        have d0 := cell_of_row w3 w.heap.size 0 _ 69 (0, 0) hat3
        have t0 := thaw_of (i := 0) hat3
        have HK1 := Lib.hid k1
        have HK2 := Lib.hid k2
        have HV := Lib.hid hv
        clear k1 k2 hat3 hv
        simp only [Act.put, List.setIfInBounds_toArray, List.set_cons_zero, List.set_cons_succ]
        refine hK.out _ _ (trivial) (fun _ => ?_)
        clear hK K
        try simp only [Act.put, List.setIfInBounds_toArray, List.set_cons_zero, List.set_cons_succ]
        refine wpAnyH_take (i := 8) (oi := { dst := some 27, op := Op.nilCheck (Operand.tmp 19), type := 0, pos := "ref.go:40", after := #[{ on := 0, ground := Ground.data }, { on := 0, ground := Ground.phase }, { on := 1, ground := Ground.phase }, { on := 2, ground := Ground.phase }, { on := 3, ground := Ground.phase }, { on := 4, ground := Ground.phase }, { on := 5, ground := Ground.phase }, { on := 6, ground := Ground.phase }, { on := 7, ground := Ground.phase }], guard := none }) (v := ?_) rfl (by kernel_rfl) (by kernel_rfl) (by kernel_rfl) (fun _ _ _ h => h) (Or.inl ⟨by rfl, ?_⟩) (by assumption) ?_
        rotate_left
        · (intro w hSw; (try dsimp only at hSw); go_simp; try with_reducible rfl)
        simp only [Act.put, List.setIfInBounds_toArray, List.set_cons_zero, List.set_cons_succ]
        refine wpAnyH_take (i := 9) (oi := { dst := some 28, op := Op.fieldAddr 69 (Operand.tmp 27) 0, type := 0, pos := "ref.go:40", after := #[{ on := 8, ground := Ground.data }, { on := 0, ground := Ground.phase }, { on := 1, ground := Ground.phase }, { on := 2, ground := Ground.phase }, { on := 3, ground := Ground.phase }, { on := 4, ground := Ground.phase }, { on := 5, ground := Ground.phase }, { on := 6, ground := Ground.phase }, { on := 7, ground := Ground.phase }], guard := none }) (v := ?_) rfl (by kernel_rfl) (by kernel_rfl) (by kernel_rfl) (fun _ _ _ h => h) (Or.inl ⟨by rfl, ?_⟩) (by assumption) ?_
        rotate_left
        · (intro w hSw; (try dsimp only at hSw); go_simp; try with_reducible rfl)
        simp only [Act.put, List.setIfInBounds_toArray, List.set_cons_zero, List.set_cons_succ]
        refine wpAnyH_ready (rs := [10]) (by kernel_rfl) (by simp) ?_
        refine AllReadyH.cons (o := { dst := none, op := Op.store 66 (Operand.tmp 28) (Operand.tmp 26), type := 0, pos := "ref.go:40", after := #[{ on := 9, ground := Ground.data }, { on := 7, ground := Ground.data }, { on := 7, ground := Ground.chain }, { on := 0, ground := Ground.phase }, { on := 1, ground := Ground.phase }, { on := 2, ground := Ground.phase }, { on := 3, ground := Ground.phase }, { on := 4, ground := Ground.phase }, { on := 5, ground := Ground.phase }, { on := 6, ground := Ground.phase }, { on := 7, ground := Ground.phase }], guard := none }) rfl (fun K hK => ?_) AllReadyH.nil
        go_simp
        try simp only []
        refine hK.out _ _ trivial (fun hHeld => ?_)
        clear hK K
        try simp only [Act.put, List.setIfInBounds_toArray, List.set_cons_zero, List.set_cons_succ]
        refine wpAnyH_done (by kernel_rfl) ?_ _
        go_wp2_with fail
        go_roundw
        case rel => exact ⟨i + 1, _, xs ++ [_], by omega, by go_num, by rw [List.length_append, HX.out]; rfl, HR.out.push (Nat.le_refl _) (Nat.le_refl _) (md.trans' hmv) HV.out HK1.out HK2.out⟩
        case measure => simp [intOf]; omega
      ·
        go_simp
        refine (rfull_n none [] 0 0 rfl _ w.heap.size (by simp; omega) (BytesAt.nil _ _) (by decide)).mono ?_
        rintro e wa ⟨v, rfl, hv, hmv, -⟩
        have hca : wa.cell? ⟨w.heap.size, 0, none⟩ = some (.slice asv xs.length csv) := hmv.cell' c0 id
        have hcb : ∀ X, (wa.alloc X).cell? ⟨w.heap.size, 0, none⟩ = some (.slice asv xs.length csv) := fun X => (Mod.alloc (fun _ => False) wa X).cell' hca id
        obtain ⟨av, cv, ev, -, -, -⟩ := hv.shape
        subst ev
        try simp only []
        refine hK.out _ _ (trivial) (fun _ => ?_)
        clear hK K
        try simp only [Act.put, List.setIfInBounds_toArray, List.set_cons_zero, List.set_cons_succ]
        refine wpAnyH_ready (rs := [4, 6]) (by kernel_rfl) (by simp) ?_
        refine AllReadyH.cons (o := { dst := some 23, op := Op.load 66 (Operand.tmp 22), type := 66, pos := "ref.go:40", after := #[{ on := 3, ground := Ground.data }], guard := none }) rfl (fun K hK => ?_) (AllReadyH.cons (o := { dst := some 25, op := Op.buildSlice 66 1 #[(0, Operand.tmp 24)], type := 66, pos := "ref.go:40", after := #[{ on := 5, ground := Ground.data }], guard := none }) rfl (fun K hK => ?_) AllReadyH.nil)
        ·
          go_simp
          try simp only []
          refine hK.out _ _ trivial (fun hHeld => ?_)
          clear hK K
          try simp only [Act.put, List.setIfInBounds_toArray, List.set_cons_zero, List.set_cons_succ]
          refine wpAnyH_ready (rs := [6]) (by kernel_rfl) (by simp) ?_
          refine AllReadyH.cons (o := { dst := some 25, op := Op.buildSlice 66 1 #[(0, Operand.tmp 24)], type := 66, pos := "ref.go:40", after := #[{ on := 5, ground := Ground.data }], guard := none }) rfl (fun K hK => ?_) AllReadyH.nil
          go_simp
          try simp only []
          refine hK.out _ _ trivial (fun hHeld => ?_)
          clear hK K
          try simp only [Act.put, List.setIfInBounds_toArray, List.set_cons_zero, List.set_cons_succ]
          refine wpAnyH_ready (rs := [7]) (by kernel_rfl) (by simp) ?_
          refine AllReadyH.cons (o := { dst := some 26, op := Op.call { callee := Callee.builtin Builtin.append, args := #[Operand.tmp 23, Operand.tmp 25], argTypes := #[66, 66] }, type := 66, pos := "ref.go:40", after := #[{ on := 4, ground := Ground.data }, { on := 6, ground := Ground.data }, { on := 5, ground := Ground.chain }], guard := none }) rfl (fun K hK => ?_) AllReadyH.nil
          clear hcb hca
          refine appR_step 66 22 _ 1 24 Try.underlying66 info22 rfl (by decide) (by decide) rfl _ _ rfl w.heap.size (.slice asv xs.length csv) xs.length xs rfl (owns_mod HR.out.safe (md.trans' (hmv.trans' (Mod.alloc _ _ _))) (fun _ _ => id)) ⟨wa.heap.size, 0, none⟩ 1 1 _ rfl rfl (cells_new wa _ 22) (slices_oneCell _ _ _) (by rw [HX.out]; omega) (by have := hmv.size; simp at this ⊢; omega) ?_
          intro v' w3 k1 k2 _
          obtain ⟨a3, c3, e3, -, -, -⟩ := owns_shape k1
          subst e3
          have hat3 := k2.obj ((md.trans' (hmv.trans' (Mod.alloc _ _ _))).obj HAT.out id) (fun e => HNP.out e.symm)
          have d0 := cell_of_row w3 w.heap.size 0 _ 69 (0, 0) hat3
          have t0 := thaw_of (i := 0) hat3
          have HK1 := Lib.hid k1
          have HK2 := Lib.hid k2
          have HV := Lib.hid hv
          clear k1 k2 hat3 hv
          simp only [Act.put, List.setIfInBounds_toArray, List.set_cons_zero, List.set_cons_succ]
          refine hK.out _ _ (trivial) (fun _ => ?_)
          clear hK K
          try simp only [Act.put, List.setIfInBounds_toArray, List.set_cons_zero, List.set_cons_succ]
          refine wpAnyH_take (i := 8) (oi := { dst := some 27, op := Op.nilCheck (Operand.tmp 19), type := 0, pos := "ref.go:40", after := #[{ on := 0, ground := Ground.data }, { on := 0, ground := Ground.phase }, { on := 1, ground := Ground.phase }, { on := 2, ground := Ground.phase }, { on := 3, ground := Ground.phase }, { on := 4, ground := Ground.phase }, { on := 5, ground := Ground.phase }, { on := 6, ground := Ground.phase }, { on := 7, ground := Ground.phase }], guard := none }) (v := ?_) rfl (by kernel_rfl) (by kernel_rfl) (by kernel_rfl) (fun _ _ _ h => h) (Or.inl ⟨by rfl, ?_⟩) (by assumption) ?_
          rotate_left
          · (intro w hSw; (try dsimp only at hSw); go_simp; try with_reducible rfl)
          simp only [Act.put, List.setIfInBounds_toArray, List.set_cons_zero, List.set_cons_succ]
          refine wpAnyH_take (i := 9) (oi := { dst := some 28, op := Op.fieldAddr 69 (Operand.tmp 27) 0, type := 0, pos := "ref.go:40", after := #[{ on := 8, ground := Ground.data }, { on := 0, ground := Ground.phase }, { on := 1, ground := Ground.phase }, { on := 2, ground := Ground.phase }, { on := 3, ground := Ground.phase }, { on := 4, ground := Ground.phase }, { on := 5, ground := Ground.phase }, { on := 6, ground := Ground.phase }, { on := 7, ground := Ground.phase }], guard := none }) (v := ?_) rfl (by kernel_rfl) (by kernel_rfl) (by kernel_rfl) (fun _ _ _ h => h) (Or.inl ⟨by rfl, ?_⟩) (by assumption) ?_
          rotate_left
          · (intro w hSw; (try dsimp only at hSw); go_simp; try with_reducible rfl)
          simp only [Act.put, List.setIfInBounds_toArray, List.set_cons_zero, List.set_cons_succ]
          refine wpAnyH_ready (rs := [10]) (by kernel_rfl) (by simp) ?_
          refine AllReadyH.cons (o := { dst := none, op := Op.store 66 (Operand.tmp 28) (Operand.tmp 26), type := 0, pos := "ref.go:40", after := #[{ on := 9, ground := Ground.data }, { on := 7, ground := Ground.data }, { on := 7, ground := Ground.chain }, { on := 0, ground := Ground.phase }, { on := 1, ground := Ground.phase }, { on := 2, ground := Ground.phase }, { on := 3, ground := Ground.phase }, { on := 4, ground := Ground.phase }, { on := 5, ground := Ground.phase }, { on := 6, ground := Ground.phase }, { on := 7, ground := Ground.phase }], guard := none }) rfl (fun K hK => ?_) AllReadyH.nil
          go_simp
          try simp only []
          refine hK.out _ _ trivial (fun hHeld => ?_)
          clear hK K
          try simp only [Act.put, List.setIfInBounds_toArray, List.set_cons_zero, List.set_cons_succ]
          refine wpAnyH_done (by kernel_rfl) ?_ _
          go_wp2_with fail
          go_roundw
          case rel => exact ⟨i + 1, _, xs ++ [_], by omega, by go_num, by rw [List.length_append, HX.out]; rfl, HR.out.push (Nat.le_refl _) (Nat.le_refl _) (md.trans' hmv) HV.out HK1.out HK2.out⟩
          case measure => simp [intOf]; omega
        ·
          go_simp
          try simp only []
          refine hK.out _ _ trivial (fun hHeld => ?_)
          clear hK K
          try simp only [Act.put, List.setIfInBounds_toArray, List.set_cons_zero, List.set_cons_succ]
          refine wpAnyH_ready (rs := [4]) (by kernel_rfl) (by simp) ?_
          refine AllReadyH.cons (o := { dst := some 23, op := Op.load 66 (Operand.tmp 22), type := 66, pos := "ref.go:40", after := #[{ on := 3, ground := Ground.data }], guard := none }) rfl (fun K hK => ?_) AllReadyH.nil
          go_simp
          try simp only []
          refine hK.out _ _ trivial (fun hHeld => ?_)
          clear hK K
          try simp only [Act.put, List.setIfInBounds_toArray, List.set_cons_zero, List.set_cons_succ]
          refine wpAnyH_ready (rs := [7]) (by kernel_rfl) (by simp) ?_
          refine AllReadyH.cons (o := { dst := some 26, op := Op.call { callee := Callee.builtin Builtin.append, args := #[Operand.tmp 23, Operand.tmp 25], argTypes := #[66, 66] }, type := 66, pos := "ref.go:40", after := #[{ on := 4, ground := Ground.data }, { on := 6, ground := Ground.data }, { on := 5, ground := Ground.chain }], guard := none }) rfl (fun K hK => ?_) AllReadyH.nil
          clear hcb hca
          refine appR_step 66 22 _ 1 24 Try.underlying66 info22 rfl (by decide) (by decide) rfl _ _ rfl w.heap.size (.slice asv xs.length csv) xs.length xs rfl (owns_mod HR.out.safe (md.trans' (hmv.trans' (Mod.alloc _ _ _))) (fun _ _ => id)) ⟨wa.heap.size, 0, none⟩ 1 1 _ rfl rfl (cells_new wa _ 22) (slices_oneCell _ _ _) (by rw [HX.out]; omega) (by have := hmv.size; simp at this ⊢; omega) ?_
          intro v' w3 k1 k2 _
          obtain ⟨a3, c3, e3, -, -, -⟩ := owns_shape k1
          subst e3
          have hat3 := k2.obj ((md.trans' (hmv.trans' (Mod.alloc _ _ _))).obj HAT.out id) (fun e => HNP.out e.symm)
          have d0 := cell_of_row w3 w.heap.size 0 _ 69 (0, 0) hat3
          have t0 := thaw_of (i := 0) hat3
          have HK1 := Lib.hid k1
          have HK2 := Lib.hid k2
          have HV := Lib.hid hv
          clear k1 k2 hat3 hv
          simp only [Act.put, List.setIfInBounds_toArray, List.set_cons_zero, List.set_cons_succ]
          refine hK.out _ _ (trivial) (fun _ => ?_)
          clear hK K
          try simp only [Act.put, List.setIfInBounds_toArray, List.set_cons_zero, List.set_cons_succ]
          refine wpAnyH_take (i := 8) (oi := { dst := some 27, op := Op.nilCheck (Operand.tmp 19), type := 0, pos := "ref.go:40", after := #[{ on := 0, ground := Ground.data }, { on := 0, ground := Ground.phase }, { on := 1, ground := Ground.phase }, { on := 2, ground := Ground.phase }, { on := 3, ground := Ground.phase }, { on := 4, ground := Ground.phase }, { on := 5, ground := Ground.phase }, { on := 6, ground := Ground.phase }, { on := 7, ground := Ground.phase }], guard := none }) (v := ?_) rfl (by kernel_rfl) (by kernel_rfl) (by kernel_rfl) (fun _ _ _ h => h) (Or.inl ⟨by rfl, ?_⟩) (by assumption) ?_
          rotate_left
          · (intro w hSw; (try dsimp only at hSw); go_simp; try with_reducible rfl)
          simp only [Act.put, List.setIfInBounds_toArray, List.set_cons_zero, List.set_cons_succ]
          refine wpAnyH_take (i := 9) (oi := { dst := some 28, op := Op.fieldAddr 69 (Operand.tmp 27) 0, type := 0, pos := "ref.go:40", after := #[{ on := 8, ground := Ground.data }, { on := 0, ground := Ground.phase }, { on := 1, ground := Ground.phase }, { on := 2, ground := Ground.phase }, { on := 3, ground := Ground.phase }, { on := 4, ground := Ground.phase }, { on := 5, ground := Ground.phase }, { on := 6, ground := Ground.phase }, { on := 7, ground := Ground.phase }], guard := none }) (v := ?_) rfl (by kernel_rfl) (by kernel_rfl) (by kernel_rfl) (fun _ _ _ h => h) (Or.inl ⟨by rfl, ?_⟩) (by assumption) ?_
          rotate_left
          · (intro w hSw; (try dsimp only at hSw); go_simp; try with_reducible rfl)
          simp only [Act.put, List.setIfInBounds_toArray, List.set_cons_zero, List.set_cons_succ]
          refine wpAnyH_ready (rs := [10]) (by kernel_rfl) (by simp) ?_
          refine AllReadyH.cons (o := { dst := none, op := Op.store 66 (Operand.tmp 28) (Operand.tmp 26), type := 0, pos := "ref.go:40", after := #[{ on := 9, ground := Ground.data }, { on := 7, ground := Ground.data }, { on := 7, ground := Ground.chain }, { on := 0, ground := Ground.phase }, { on := 1, ground := Ground.phase }, { on := 2, ground := Ground.phase }, { on := 3, ground := Ground.phase }, { on := 4, ground := Ground.phase }, { on := 5, ground := Ground.phase }, { on := 6, ground := Ground.phase }, { on := 7, ground := Ground.phase }], guard := none }) rfl (fun K hK => ?_) AllReadyH.nil
          go_simp
          try simp only []
          refine hK.out _ _ trivial (fun hHeld => ?_)
          clear hK K
          try simp only [Act.put, List.setIfInBounds_toArray, List.set_cons_zero, List.set_cons_succ]
          refine wpAnyH_done (by kernel_rfl) ?_ _
          go_wp2_with fail
          go_roundw
          case rel => exact ⟨i + 1, _, xs ++ [_], by omega, by go_num, by rw [List.length_append, HX.out]; rfl, HR.out.push (Nat.le_refl _) (Nat.le_refl _) (md.trans' hmv) HV.out HK1.out HK2.out⟩
          case measure => simp [intOf]; omega
    · obtain rfl : i = n := by omega
      go_wp2
      go_ret2
      exact ⟨_, rfl, RB.born hB hR hi (by rw [List.length_replicate, hxl]; omega) (fun j hj => (zeros_sector i j (by omega)).symm)⟩

theorem rnew_no {w : World} (n : Int) (h : n < 1 ∨ 4096 < n) :
    Calls Try.prog 45 #[.int .i64 n] w fun e w' => e = .returned (.tuple #[.pointer none, .int .i64 1]) ∧ w = w' := by
  by_cases h1 : n < 1
  · go_enter Try.func45, Try.ntmps45
    go_wp2
    go_ret2
    exact ⟨rfl, rfl⟩
  · have h2 : 4096 < n := by omega
    go_enter Try.func45, Try.ntmps45
    go_wp2
    go_ret2
    exact ⟨rfl, rfl⟩

set_option maxRecDepth 100000 in
theorem rload_no {w : World} (a : Option Addr) (l : List UInt8) (cap : Nat) (hm : l.length ≤ 140737488355328) (hi : ¬ imageOk l.length) :
    Calls Try.prog 47 #[.slice a l.length cap] w fun e w' => e = .returned (.tuple #[.pointer none, .int .i64 1]) ∧ w = w' := by
  generalize l.length = n at *
  by_cases h1 : (n : Int) % 256 = 0
  · by_cases h2 : 1 ≤ (n : Int) / 256
    · have h3 : 4096 < (n : Int) / 256 := by unfold imageOk at hi; omega
      go_enter Try.func47, Try.ntmps47
      go_wp2
      go_ret2
      exact ⟨rfl, rfl⟩
    · have h2' : (n : Int) / 256 < 1 := by omega
      go_enter Try.func47, Try.ntmps47
      go_wp2
      go_ret2
      exact ⟨rfl, rfl⟩
  · have h1' : ((n : Int) % 256 != 0) = true := by simpa using h1
    go_enter Try.func47, Try.ntmps47
    go_wp2
    go_ret2
    exact ⟨rfl, rfl⟩

set_option maxHeartbeats 1000000 in
set_option maxRecDepth 100000 in
theorem rload_ok {w : World} {B : Nat} (hB : B ≤ w.heap.size) (a : Option Addr) (l : List UInt8) (cap : Nat) (hb : BytesAt w a l) (hcap : l.length ≤ cap) (hi : imageOk l.length) :
    Calls Try.prog 47 #[.slice a l.length cap] w fun e w' => ∃ v, e = .returned (.tuple #[v, .int .i64 0]) ∧ RBorn w B v (Dsk.of l) w' := by
  obtain ⟨n, hn⟩ : ∃ n, n = l.length / 256 := ⟨_, rfl⟩
  have hn1 : 1 ≤ n := by rw [hn]; exact hi.2.1
  have hn2 : n ≤ 4096 := by rw [hn]; exact hi.2.2
  have hnl : l.length = n * 256 := by rw [hn]; exact hi.1.symm
  obtain ⟨g, off, rfl, -⟩ := hb (by intro e; rw [e] at hnl; simp at hnl; omega)
  have h0 : (l.length : Int) % 256 = 0 := by omega
  have h1 : (l.length : Int) / 256 = (n : Int) := by omega
  have hlo : (1 : Int) ≤ (n : Int) := by omega
  have hhi : (n : Int) ≤ 4096 := by omega
  have hcap' : n * 256 ≤ cap := by omega
  have hr0 := RB.start (w0 := w) (H := w.heap.size) (sector l)
  have HR0 := Lib.hid hr0
  have HNL := Lib.hid hnl
  have HI := Lib.hid hi
  clear hr0 hn hi
  rw [hnl] at h0 h1 ⊢
  clear hnl hcap
  have e1 : ((n * 256 : Nat) : Int) % 256 = 0 := h0
  have e2 : ((n * 256 : Nat) : Int) / 256 = (n : Int) := h1
  clear h0 h1
  go_enter Try.func47, Try.ntmps47
  go_wp2_with fail
  go_loopw [6] (fun v6 wr => ∃ (i : Nat) (vs : Value) (xs : List Value), i ≤ n ∧ v6 = .int .i64 (i : Int) ∧ xs.length = i ∧ RB w wr w.heap.size w.heap.size vs xs (sector l)) (fun v6 _ => n - (intOf v6).toNat)
  case atStart => exact ⟨0, _, [], Nat.zero_le _, rfl, rfl, HR0.out⟩
  case round =>
    obtain ⟨i, vs, xs, hin, rfl, hxl, hR⟩ := hrel
    clear HR0
    by_cases hlt : i < n
    · have hlt' : (i : Int) < (n : Int) := by omega
      go_upto_region 8 with fail
      have md : Mod (fun _ => False) wr wr.drew := Mod.drew _ _
      obtain ⟨asv, csv, evs, -, -, -⟩ := owns_shape hR.safe
      subst evs
      have hcell := cell_of_row wr w.heap.size 0 _ 69 (0, 0) hR.at_
      have hat := hR.at_
      have hnp : (Value.slice asv xs.length csv).ownBlock ≠ some w.heap.size := own_ne hR.safe hat (by decide)
      have c0 : wr.drew.cell? ⟨w.heap.size, 0, none⟩ = some (.slice asv xs.length csv) := by simpa using hcell
      have hsz := hR.mod.size
      have hbs := (hb.mod (hR.mod.trans' md) (fun _ _ _ => id)).sub (i * 256) 256
      have hsl := sector_length l i n (by rw [HNL.out]; exact Nat.le_refl _) hlt
      have hc1 : (i : Int) * 256 + 256 ≤ (cap : Int) := by omega
      have HX := Lib.hid hxl
      have HR := Lib.hid hR
      have HAT := Lib.hid hat
      have HNP := Lib.hid hnp
      have HBS := Lib.hid hbs
      have HSL := Lib.hid hsl
      clear hcell hat hnp hR hxl hbs hsl
      have n1 : ((i : Int) * 256).toNat = i * 256 := by omega
      have n2 : (((i : Int) + 1) * 256).toNat = (i + 1) * 256 := by omega
      have o1 : 0 ≤ ((i : Int) + 1) * 256 := by omega
      have o2 : ((i : Int) + 1) * 256 ≤ (cap : Int) := by omega
      have o3 : 0 ≤ (i : Int) * 256 := by omega
      have o4 : (i : Int) ≤ (i : Int) + 1 := by omega
      have o5 : ¬ (cap = i * 256) := by omega
      have m1 : IntKind.i64.wrap ((i : Int) + 1) = (i : Int) + 1 := IntWalk.i64_in _ (by omega)
      have m2 : IntKind.i64.wrap ((i : Int) * 256) = (i : Int) * 256 := IntWalk.i64_in _ (by omega)
      have m3 : IntKind.i64.wrap (((i : Int) + 1) * 256) = ((i : Int) + 1) * 256 := IntWalk.i64_in _ (by omega)
      refine wp_region_held_drew (S := fun _ => True) (by kernel_rfl) (trivial) (fun hHeld => ?_)
      refine wpAnyH_take (i := 0) (oi := { dst := some 29, op := Op.move (Operand.tmp 5), type := 60, pos := "ref.go:53", after := #[], guard := none }) (v := ?_) rfl (by kernel_rfl) (by kernel_rfl) (by kernel_rfl) (fun _ _ _ h => h) (Or.inl ⟨by rfl, ?_⟩) (by assumption) ?_
      rotate_left
      · (intro w hSw; (try dsimp only at hSw); go_simp; try with_reducible rfl)
      simp only [Act.put, List.setIfInBounds_toArray, List.set_cons_zero, List.set_cons_succ]
      refine wpAnyH_take (i := 1) (oi := { dst := some 30, op := Op.move (Operand.tmp 5), type := 60, pos := "ref.go:53", after := #[], guard := none }) (v := ?_) rfl (by kernel_rfl) (by kernel_rfl) (by kernel_rfl) (fun _ _ _ h => h) (Or.inl ⟨by rfl, ?_⟩) (by assumption) ?_
      rotate_left
      · (intro w hSw; (try dsimp only at hSw); go_simp; try with_reducible rfl)
      simp only [Act.put, List.setIfInBounds_toArray, List.set_cons_zero, List.set_cons_succ]
      refine wpAnyH_take (i := 2) (oi := { dst := some 31, op := Op.nilCheck (Operand.tmp 30), type := 0, pos := "ref.go:53", after := #[{ on := 1, ground := Ground.data }], guard := none }) (v := ?_) rfl (by kernel_rfl) (by kernel_rfl) (by kernel_rfl) (fun _ _ _ h => h) (Or.inl ⟨by rfl, ?_⟩) (by assumption) ?_
      rotate_left
      · (intro w hSw; (try dsimp only at hSw); go_simp; try with_reducible rfl)
      simp only [Act.put, List.setIfInBounds_toArray, List.set_cons_zero, List.set_cons_succ]
      refine wpAnyH_take (i := 3) (oi := { dst := some 32, op := Op.fieldAddr 69 (Operand.tmp 31) 0, type := 0, pos := "ref.go:53", after := #[{ on := 2, ground := Ground.data }], guard := none }) (v := ?_) rfl (by kernel_rfl) (by kernel_rfl) (by kernel_rfl) (fun _ _ _ h => h) (Or.inl ⟨by rfl, ?_⟩) (by assumption) ?_
      rotate_left
      · (intro w hSw; (try dsimp only at hSw); go_simp; try with_reducible rfl)
      simp only [Act.put, List.setIfInBounds_toArray, List.set_cons_zero, List.set_cons_succ]
      refine wpAnyH_take (i := 5) (oi := { dst := some 34, op := Op.move (Operand.tmp 0), type := 22, pos := "ref.go:53", after := #[], guard := none }) (v := ?_) rfl (by kernel_rfl) (by kernel_rfl) (by kernel_rfl) (fun _ _ _ h => h) (Or.inl ⟨by rfl, ?_⟩) (by assumption) ?_
      rotate_left
      · (intro w hSw; (try dsimp only at hSw); go_simp; try with_reducible rfl)
      simp only [Act.put, List.setIfInBounds_toArray, List.set_cons_zero, List.set_cons_succ]
      refine wpAnyH_take (i := 6) (oi := { dst := some 35, op := Op.move (Operand.tmp 6), type := 3, pos := "ref.go:53", after := #[], guard := none }) (v := ?_) rfl (by kernel_rfl) (by kernel_rfl) (by kernel_rfl) (fun _ _ _ h => h) (Or.inl ⟨by rfl, ?_⟩) (by assumption) ?_
      rotate_left
      · (intro w hSw; (try dsimp only at hSw); go_simp; try with_reducible rfl)
      simp only [Act.put, List.setIfInBounds_toArray, List.set_cons_zero, List.set_cons_succ]
      refine wpAnyH_take (i := 7) (oi := { dst := some 36, op := Op.binOp BinOp.mul 3 (Operand.tmp 35) (Operand.const (Value.int IntKind.i64 256)) 3, type := 3, pos := "ref.go:53", after := #[{ on := 6, ground := Ground.data }], guard := none }) (v := ?_) rfl (by kernel_rfl) (by kernel_rfl) (by kernel_rfl) (fun _ _ _ h => h) (Or.inl ⟨by rfl, ?_⟩) (by assumption) ?_
      rotate_left
      · (intro w hSw; (try dsimp only at hSw); go_simp; try with_reducible rfl)
      simp only [Act.put, List.setIfInBounds_toArray, List.set_cons_zero, List.set_cons_succ]
      refine wpAnyH_take (i := 8) (oi := { dst := some 37, op := Op.move (Operand.tmp 6), type := 3, pos := "ref.go:53", after := #[], guard := none }) (v := ?_) rfl (by kernel_rfl) (by kernel_rfl) (by kernel_rfl) (fun _ _ _ h => h) (Or.inl ⟨by rfl, ?_⟩) (by assumption) ?_
      rotate_left
      · (intro w hSw; (try dsimp only at hSw); go_simp; try with_reducible rfl)
      simp only [Act.put, List.setIfInBounds_toArray, List.set_cons_zero, List.set_cons_succ]
      refine wpAnyH_take (i := 9) (oi := { dst := some 38, op := Op.binOp BinOp.add 3 (Operand.tmp 37) (Operand.const (Value.int IntKind.i64 1)) 3, type := 3, pos := "ref.go:53", after := #[{ on := 8, ground := Ground.data }], guard := none }) (v := ?_) rfl (by kernel_rfl) (by kernel_rfl) (by kernel_rfl) (fun _ _ _ h => h) (Or.inl ⟨by rfl, ?_⟩) (by assumption) ?_
      rotate_left
      · (intro w hSw; (try dsimp only at hSw); go_simp; try with_reducible rfl)
      simp only [Act.put, List.setIfInBounds_toArray, List.set_cons_zero, List.set_cons_succ]
      refine wpAnyH_take (i := 10) (oi := { dst := some 39, op := Op.binOp BinOp.mul 3 (Operand.tmp 38) (Operand.const (Value.int IntKind.i64 256)) 3, type := 3, pos := "ref.go:53", after := #[{ on := 9, ground := Ground.data }], guard := none }) (v := ?_) rfl (by kernel_rfl) (by kernel_rfl) (by kernel_rfl) (fun _ _ _ h => h) (Or.inl ⟨by rfl, ?_⟩) (by assumption) ?_
      rotate_left
      · (intro w hSw; (try dsimp only at hSw); go_simp; try with_reducible rfl)
      simp only [Act.put, List.setIfInBounds_toArray, List.set_cons_zero, List.set_cons_succ]
      refine wpAnyH_take (i := 11) (oi := { dst := some 40, op := Op.slice 22 (Operand.tmp 34) (some (Operand.tmp 36)) (some (Operand.tmp 39)) none, type := 22, pos := "ref.go:53", after := #[{ on := 5, ground := Ground.data }, { on := 7, ground := Ground.data }, { on := 10, ground := Ground.data }], guard := none }) (v := ?_) rfl (by kernel_rfl) (by kernel_rfl) (by kernel_rfl) (fun _ _ _ h => h) (Or.inl ⟨by rfl, ?_⟩) (by assumption) ?_
      rotate_left
      · (intro w hSw; (try dsimp only at hSw); go_simp; try with_reducible rfl)
      simp only [Act.put, List.setIfInBounds_toArray, List.set_cons_zero, List.set_cons_succ]
      refine wpAnyH_ready (rs := [4, 12]) (by kernel_rfl) (by simp) ?_
      refine AllReadyH.cons (o := { dst := some 33, op := Op.load 66 (Operand.tmp 32), type := 66, pos := "ref.go:53", after := #[{ on := 3, ground := Ground.data }], guard := none }) rfl (fun K hK => ?_) (AllReadyH.cons (o := { dst := some 41, op := Op.call { callee := Callee.value (Operand.func 89), args := #[Operand.tmp 40], argTypes := #[22] }, type := 22, pos := "ref.go:53", after := #[{ on := 11, ground := Ground.data }], guard := none }) rfl (fun K hK => ?_) AllReadyH.nil)
      ·
        go_simp
        try simp only []
        refine hK.out _ _ trivial (fun hHeld => ?_)
        clear hK K
        try simp only [Act.put, List.setIfInBounds_toArray, List.set_cons_zero, List.set_cons_succ]
        refine wpAnyH_ready (rs := [12]) (by kernel_rfl) (by simp) ?_
        refine AllReadyH.cons (o := { dst := some 41, op := Op.call { callee := Callee.value (Operand.func 89), args := #[Operand.tmp 40], argTypes := #[22] }, type := 22, pos := "ref.go:53", after := #[{ on := 11, ground := Ground.data }], guard := none }) rfl (fun K hK => ?_) AllReadyH.nil
        go_simp
        refine (rfull_n (some ⟨g, off + i * 256, none⟩) (sector l i) _ _ (by rw [HSL.out]; clear m1 m2 m3; omega) _ w.heap.size (by clear m1 m2 m3; simp; omega) HBS.out (by rw [HSL.out]; decide)).mono ?_
        rintro e wa ⟨v, rfl, hv, hmv, -⟩
        have hca : wa.cell? ⟨w.heap.size, 0, none⟩ = some (.slice asv xs.length csv) := hmv.cell' c0 id
        have hcb : ∀ X, (wa.alloc X).cell? ⟨w.heap.size, 0, none⟩ = some (.slice asv xs.length csv) := fun X => (Mod.alloc (fun _ => False) wa X).cell' hca id
        obtain ⟨av, cv, ev, -, -, -⟩ := hv.shape
        subst ev
        try simp only []
        refine hK.out _ _ (trivial) (fun _ => ?_)
        clear hK K
        try simp only [Act.put, List.setIfInBounds_toArray, List.set_cons_zero, List.set_cons_succ]
        refine wpAnyH_ready (rs := [13]) (by kernel_rfl) (by simp) ?_
        refine AllReadyH.cons (o := { dst := some 42, op := Op.buildSlice 66 1 #[(0, Operand.tmp 41)], type := 66, pos := "ref.go:53", after := #[{ on := 12, ground := Ground.data }], guard := none }) rfl (fun K hK => ?_) AllReadyH.nil
        go_simp
        try simp only []
        refine hK.out _ _ trivial (fun hHeld => ?_)
        clear hK K
        try simp only [Act.put, List.setIfInBounds_toArray, List.set_cons_zero, List.set_cons_succ]
        refine wpAnyH_ready (rs := [14]) (by kernel_rfl) (by simp) ?_
        refine AllReadyH.cons (o := { dst := some 43, op := Op.call { callee := Callee.builtin Builtin.append, args := #[Operand.tmp 33, Operand.tmp 42], argTypes := #[66, 66] }, type := 66, pos := "ref.go:53", after := #[{ on := 4, ground := Ground.data }, { on := 13, ground := Ground.data }, { on := 12, ground := Ground.chain }], guard := none }) rfl (fun K hK => ?_) AllReadyH.nil
        clear m1 m2 m3
        clear hcb hca
        refine appR_step 66 22 _ 1 24 Try.underlying66 info22 rfl (by decide) (by decide) rfl _ _ rfl w.heap.size (.slice asv xs.length csv) xs.length xs rfl (owns_mod HR.out.safe (md.trans' (hmv.trans' (Mod.alloc _ _ _))) (fun _ _ => id)) ⟨wa.heap.size, 0, none⟩ 1 1 _ rfl rfl (cells_new wa _ 22) (slices_oneCell _ _ _) (by rw [HX.out]; omega) (by have := hmv.size; simp at this ⊢; omega) ?_
        intro v' w3 k1 k2 _
        obtain ⟨a3, c3, e3, -, -, -⟩ := owns_shape k1
        subst e3
        have hat3 := k2.obj ((md.trans' (hmv.trans' (Mod.alloc _ _ _))).obj HAT.out id) (fun e => HNP.out e.symm)
        have d0 := cell_of_row w3 w.heap.size 0 _ 69 (0, 0) hat3
        have t0 := thaw_of (i := 0) hat3
        have HK1 := Lib.hid k1
        have HK2 := Lib.hid k2
        have HV := Lib.hid hv
        clear k1 k2 hat3 hv
        simp only [Act.put, List.setIfInBounds_toArray, List.set_cons_zero, List.set_cons_succ]
        refine hK.out _ _ (trivial) (fun _ => ?_)
        clear hK K
        try simp only [Act.put, List.setIfInBounds_toArray, List.set_cons_zero, List.set_cons_succ]
        refine wpAnyH_take (i := 15) (oi := { dst := some 44, op := Op.nilCheck (Operand.tmp 29), type := 0, pos := "ref.go:53", after := #[{ on := 0, ground := Ground.data }, { on := 0, ground := Ground.phase }, { on := 1, ground := Ground.phase }, { on := 2, ground := Ground.phase }, { on := 3, ground := Ground.phase }, { on := 4, ground := Ground.phase }, { on := 5, ground := Ground.phase }, { on := 6, ground := Ground.phase }, { on := 7, ground := Ground.phase }, { on := 8, ground := Ground.phase }, { on := 9, ground := Ground.phase }, { on := 10, ground := Ground.phase }, { on := 11, ground := Ground.phase }, { on := 12, ground := Ground.phase }, { on := 13, ground := Ground.phase }, { on := 14, ground := Ground.phase }], guard := none }) (v := ?_) rfl (by kernel_rfl) (by kernel_rfl) (by kernel_rfl) (fun _ _ _ h => h) (Or.inl ⟨by rfl, ?_⟩) (by assumption) ?_
        rotate_left
        · (intro w hSw; (try dsimp only at hSw); go_simp; try with_reducible rfl)
        simp only [Act.put, List.setIfInBounds_toArray, List.set_cons_zero, List.set_cons_succ]
        refine wpAnyH_take (i := 16) (oi := { dst := some 45, op := Op.fieldAddr 69 (Operand.tmp 44) 0, type := 0, pos := "ref.go:53", after := #[{ on := 15, ground := Ground.data }, { on := 0, ground := Ground.phase }, { on := 1, ground := Ground.phase }, { on := 2, ground := Ground.phase }, { on := 3, ground := Ground.phase }, { on := 4, ground := Ground.phase }, { on := 5, ground := Ground.phase }, { on := 6, ground := Ground.phase }, { on := 7, ground := Ground.phase }, { on := 8, ground := Ground.phase }, { on := 9, ground := Ground.phase }, { on := 10, ground := Ground.phase }, { on := 11, ground := Ground.phase }, { on := 12, ground := Ground.phase }, { on := 13, ground := Ground.phase }, { on := 14, ground := Ground.phase }], guard := none }) (v := ?_) rfl (by kernel_rfl) (by kernel_rfl) (by kernel_rfl) (fun _ _ _ h => h) (Or.inl ⟨by rfl, ?_⟩) (by assumption) ?_
        rotate_left
        · (intro w hSw; (try dsimp only at hSw); go_simp; try with_reducible rfl)
        simp only [Act.put, List.setIfInBounds_toArray, List.set_cons_zero, List.set_cons_succ]
        refine wpAnyH_ready (rs := [17]) (by kernel_rfl) (by simp) ?_
        refine AllReadyH.cons (o := { dst := none, op := Op.store 66 (Operand.tmp 45) (Operand.tmp 43), type := 0, pos := "ref.go:53", after := #[{ on := 16, ground := Ground.data }, { on := 14, ground := Ground.data }, { on := 14, ground := Ground.chain }, { on := 0, ground := Ground.phase }, { on := 1, ground := Ground.phase }, { on := 2, ground := Ground.phase }, { on := 3, ground := Ground.phase }, { on := 4, ground := Ground.phase }, { on := 5, ground := Ground.phase }, { on := 6, ground := Ground.phase }, { on := 7, ground := Ground.phase }, { on := 8, ground := Ground.phase }, { on := 9, ground := Ground.phase }, { on := 10, ground := Ground.phase }, { on := 11, ground := Ground.phase }, { on := 12, ground := Ground.phase }, { on := 13, ground := Ground.phase }, { on := 14, ground := Ground.phase }], guard := none }) rfl (fun K hK => ?_) AllReadyH.nil
        go_simp
        try simp only []
        refine hK.out _ _ trivial (fun hHeld => ?_)
        clear hK K
        try simp only [Act.put, List.setIfInBounds_toArray, List.set_cons_zero, List.set_cons_succ]
        refine wpAnyH_done (by kernel_rfl) ?_ _
        go_wp2_with fail
        go_roundw
        case rel => exact ⟨i + 1, _, xs ++ [_], by omega, by go_num, by rw [List.length_append, HX.out]; rfl, HR.out.push (Nat.le_refl _) (Nat.le_refl _) (md.trans' hmv) (HV.out.to (by rw [HX.out]; exact sect_full _ HSL.out)) HK1.out HK2.out⟩
        case measure => simp [intOf]; omega
      ·
        go_simp
        refine (rfull_n (some ⟨g, off + i * 256, none⟩) (sector l i) _ _ (by rw [HSL.out]; clear m1 m2 m3; omega) _ w.heap.size (by clear m1 m2 m3; simp; omega) HBS.out (by rw [HSL.out]; decide)).mono ?_
        rintro e wa ⟨v, rfl, hv, hmv, -⟩
        have hca : wa.cell? ⟨w.heap.size, 0, none⟩ = some (.slice asv xs.length csv) := hmv.cell' c0 id
        have hcb : ∀ X, (wa.alloc X).cell? ⟨w.heap.size, 0, none⟩ = some (.slice asv xs.length csv) := fun X => (Mod.alloc (fun _ => False) wa X).cell' hca id
        obtain ⟨av, cv, ev, -, -, -⟩ := hv.shape
        subst ev
        try simp only []
        refine hK.out _ _ (trivial) (fun _ => ?_)
        clear hK K
        try simp only [Act.put, List.setIfInBounds_toArray, List.set_cons_zero, List.set_cons_succ]
        refine wpAnyH_ready (rs := [4, 13]) (by kernel_rfl) (by simp) ?_
        refine AllReadyH.cons (o := { dst := some 33, op := Op.load 66 (Operand.tmp 32), type := 66, pos := "ref.go:53", after := #[{ on := 3, ground := Ground.data }], guard := none }) rfl (fun K hK => ?_) (AllReadyH.cons (o := { dst := some 42, op := Op.buildSlice 66 1 #[(0, Operand.tmp 41)], type := 66, pos := "ref.go:53", after := #[{ on := 12, ground := Ground.data }], guard := none }) rfl (fun K hK => ?_) AllReadyH.nil)
        ·
          go_simp
          try simp only []
          refine hK.out _ _ trivial (fun hHeld => ?_)
          clear hK K
          try simp only [Act.put, List.setIfInBounds_toArray, List.set_cons_zero, List.set_cons_succ]
          refine wpAnyH_ready (rs := [13]) (by kernel_rfl) (by simp) ?_
          refine AllReadyH.cons (o := { dst := some 42, op := Op.buildSlice 66 1 #[(0, Operand.tmp 41)], type := 66, pos := "ref.go:53", after := #[{ on := 12, ground := Ground.data }], guard := none }) rfl (fun K hK => ?_) AllReadyH.nil
          go_simp
          try simp only []
          refine hK.out _ _ trivial (fun hHeld => ?_)
          clear hK K
          try simp only [Act.put, List.setIfInBounds_toArray, List.set_cons_zero, List.set_cons_succ]
          refine wpAnyH_ready (rs := [14]) (by kernel_rfl) (by simp) ?_
          refine AllReadyH.cons (o := { dst := some 43, op := Op.call { callee := Callee.builtin Builtin.append, args := #[Operand.tmp 33, Operand.tmp 42], argTypes := #[66, 66] }, type := 66, pos := "ref.go:53", after := #[{ on := 4, ground := Ground.data }, { on := 13, ground := Ground.data }, { on := 12, ground := Ground.chain }], guard := none }) rfl (fun K hK => ?_) AllReadyH.nil
          clear m1 m2 m3
          clear hcb hca
          refine appR_step 66 22 _ 1 24 Try.underlying66 info22 rfl (by decide) (by decide) rfl _ _ rfl w.heap.size (.slice asv xs.length csv) xs.length xs rfl (owns_mod HR.out.safe (md.trans' (hmv.trans' (Mod.alloc _ _ _))) (fun _ _ => id)) ⟨wa.heap.size, 0, none⟩ 1 1 _ rfl rfl (cells_new wa _ 22) (slices_oneCell _ _ _) (by rw [HX.out]; omega) (by have := hmv.size; simp at this ⊢; omega) ?_
          intro v' w3 k1 k2 _
          obtain ⟨a3, c3, e3, -, -, -⟩ := owns_shape k1
          subst e3
          have hat3 := k2.obj ((md.trans' (hmv.trans' (Mod.alloc _ _ _))).obj HAT.out id) (fun e => HNP.out e.symm)
          have d0 := cell_of_row w3 w.heap.size 0 _ 69 (0, 0) hat3
          have t0 := thaw_of (i := 0) hat3
          have HK1 := Lib.hid k1
          have HK2 := Lib.hid k2
          have HV := Lib.hid hv
          clear k1 k2 hat3 hv
          simp only [Act.put, List.setIfInBounds_toArray, List.set_cons_zero, List.set_cons_succ]
          refine hK.out _ _ (trivial) (fun _ => ?_)
          clear hK K
          try simp only [Act.put, List.setIfInBounds_toArray, List.set_cons_zero, List.set_cons_succ]
          refine wpAnyH_take (i := 15) (oi := { dst := some 44, op := Op.nilCheck (Operand.tmp 29), type := 0, pos := "ref.go:53", after := #[{ on := 0, ground := Ground.data }, { on := 0, ground := Ground.phase }, { on := 1, ground := Ground.phase }, { on := 2, ground := Ground.phase }, { on := 3, ground := Ground.phase }, { on := 4, ground := Ground.phase }, { on := 5, ground := Ground.phase }, { on := 6, ground := Ground.phase }, { on := 7, ground := Ground.phase }, { on := 8, ground := Ground.phase }, { on := 9, ground := Ground.phase }, { on := 10, ground := Ground.phase }, { on := 11, ground := Ground.phase }, { on := 12, ground := Ground.phase }, { on := 13, ground := Ground.phase }, { on := 14, ground := Ground.phase }], guard := none }) (v := ?_) rfl (by kernel_rfl) (by kernel_rfl) (by kernel_rfl) (fun _ _ _ h => h) (Or.inl ⟨by rfl, ?_⟩) (by assumption) ?_
          rotate_left
          · (intro w hSw; (try dsimp only at hSw); go_simp; try with_reducible rfl)
          simp only [Act.put, List.setIfInBounds_toArray, List.set_cons_zero, List.set_cons_succ]
          refine wpAnyH_take (i := 16) (oi := { dst := some 45, op := Op.fieldAddr 69 (Operand.tmp 44) 0, type := 0, pos := "ref.go:53", after := #[{ on := 15, ground := Ground.data }, { on := 0, ground := Ground.phase }, { on := 1, ground := Ground.phase }, { on := 2, ground := Ground.phase }, { on := 3, ground := Ground.phase }, { on := 4, ground := Ground.phase }, { on := 5, ground := Ground.phase }, { on := 6, ground := Ground.phase }, { on := 7, ground := Ground.phase }, { on := 8, ground := Ground.phase }, { on := 9, ground := Ground.phase }, { on := 10, ground := Ground.phase }, { on := 11, ground := Ground.phase }, { on := 12, ground := Ground.phase }, { on := 13, ground := Ground.phase }, { on := 14, ground := Ground.phase }], guard := none }) (v := ?_) rfl (by kernel_rfl) (by kernel_rfl) (by kernel_rfl) (fun _ _ _ h => h) (Or.inl ⟨by rfl, ?_⟩) (by assumption) ?_
          rotate_left
          · (intro w hSw; (try dsimp only at hSw); go_simp; try with_reducible rfl)
          simp only [Act.put, List.setIfInBounds_toArray, List.set_cons_zero, List.set_cons_succ]
          refine wpAnyH_ready (rs := [17]) (by kernel_rfl) (by simp) ?_
          refine AllReadyH.cons (o := { dst := none, op := Op.store 66 (Operand.tmp 45) (Operand.tmp 43), type := 0, pos := "ref.go:53", after := #[{ on := 16, ground := Ground.data }, { on := 14, ground := Ground.data }, { on := 14, ground := Ground.chain }, { on := 0, ground := Ground.phase }, { on := 1, ground := Ground.phase }, { on := 2, ground := Ground.phase }, { on := 3, ground := Ground.phase }, { on := 4, ground := Ground.phase }, { on := 5, ground := Ground.phase }, { on := 6, ground := Ground.phase }, { on := 7, ground := Ground.phase }, { on := 8, ground := Ground.phase }, { on := 9, ground := Ground.phase }, { on := 10, ground := Ground.phase }, { on := 11, ground := Ground.phase }, { on := 12, ground := Ground.phase }, { on := 13, ground := Ground.phase }, { on := 14, ground := Ground.phase }], guard := none }) rfl (fun K hK => ?_) AllReadyH.nil
          go_simp
          try simp only []
          refine hK.out _ _ trivial (fun hHeld => ?_)
          clear hK K
          try simp only [Act.put, List.setIfInBounds_toArray, List.set_cons_zero, List.set_cons_succ]
          refine wpAnyH_done (by kernel_rfl) ?_ _
          go_wp2_with fail
          go_roundw
          case rel => exact ⟨i + 1, _, xs ++ [_], by omega, by go_num, by rw [List.length_append, HX.out]; rfl, HR.out.push (Nat.le_refl _) (Nat.le_refl _) (md.trans' hmv) (HV.out.to (by rw [HX.out]; exact sect_full _ HSL.out)) HK1.out HK2.out⟩
          case measure => simp [intOf]; omega
        ·
          go_simp
          try simp only []
          refine hK.out _ _ trivial (fun hHeld => ?_)
          clear hK K
          try simp only [Act.put, List.setIfInBounds_toArray, List.set_cons_zero, List.set_cons_succ]
          refine wpAnyH_ready (rs := [4]) (by kernel_rfl) (by simp) ?_
          refine AllReadyH.cons (o := { dst := some 33, op := Op.load 66 (Operand.tmp 32), type := 66, pos := "ref.go:53", after := #[{ on := 3, ground := Ground.data }], guard := none }) rfl (fun K hK => ?_) AllReadyH.nil
          go_simp
          try simp only []
          refine hK.out _ _ trivial (fun hHeld => ?_)
          clear hK K
          try simp only [Act.put, List.setIfInBounds_toArray, List.set_cons_zero, List.set_cons_succ]
          refine wpAnyH_ready (rs := [14]) (by kernel_rfl) (by simp) ?_
          refine AllReadyH.cons (o := { dst := some 43, op := Op.call { callee := Callee.builtin Builtin.append, args := #[Operand.tmp 33, Operand.tmp 42], argTypes := #[66, 66] }, type := 66, pos := "ref.go:53", after := #[{ on := 4, ground := Ground.data }, { on := 13, ground := Ground.data }, { on := 12, ground := Ground.chain }], guard := none }) rfl (fun K hK => ?_) AllReadyH.nil
          clear m1 m2 m3
          clear hcb hca
          refine appR_step 66 22 _ 1 24 Try.underlying66 info22 rfl (by decide) (by decide) rfl _ _ rfl w.heap.size (.slice asv xs.length csv) xs.length xs rfl (owns_mod HR.out.safe (md.trans' (hmv.trans' (Mod.alloc _ _ _))) (fun _ _ => id)) ⟨wa.heap.size, 0, none⟩ 1 1 _ rfl rfl (cells_new wa _ 22) (slices_oneCell _ _ _) (by rw [HX.out]; omega) (by have := hmv.size; simp at this ⊢; omega) ?_
          intro v' w3 k1 k2 _
          obtain ⟨a3, c3, e3, -, -, -⟩ := owns_shape k1
          subst e3
          have hat3 := k2.obj ((md.trans' (hmv.trans' (Mod.alloc _ _ _))).obj HAT.out id) (fun e => HNP.out e.symm)
          have d0 := cell_of_row w3 w.heap.size 0 _ 69 (0, 0) hat3
          have t0 := thaw_of (i := 0) hat3
          have HK1 := Lib.hid k1
          have HK2 := Lib.hid k2
          have HV := Lib.hid hv
          clear k1 k2 hat3 hv
          simp only [Act.put, List.setIfInBounds_toArray, List.set_cons_zero, List.set_cons_succ]
          refine hK.out _ _ (trivial) (fun _ => ?_)
          clear hK K
          try simp only [Act.put, List.setIfInBounds_toArray, List.set_cons_zero, List.set_cons_succ]
          refine wpAnyH_take (i := 15) (oi := { dst := some 44, op := Op.nilCheck (Operand.tmp 29), type := 0, pos := "ref.go:53", after := #[{ on := 0, ground := Ground.data }, { on := 0, ground := Ground.phase }, { on := 1, ground := Ground.phase }, { on := 2, ground := Ground.phase }, { on := 3, ground := Ground.phase }, { on := 4, ground := Ground.phase }, { on := 5, ground := Ground.phase }, { on := 6, ground := Ground.phase }, { on := 7, ground := Ground.phase }, { on := 8, ground := Ground.phase }, { on := 9, ground := Ground.phase }, { on := 10, ground := Ground.phase }, { on := 11, ground := Ground.phase }, { on := 12, ground := Ground.phase }, { on := 13, ground := Ground.phase }, { on := 14, ground := Ground.phase }], guard := none }) (v := ?_) rfl (by kernel_rfl) (by kernel_rfl) (by kernel_rfl) (fun _ _ _ h => h) (Or.inl ⟨by rfl, ?_⟩) (by assumption) ?_
          rotate_left
          · (intro w hSw; (try dsimp only at hSw); go_simp; try with_reducible rfl)
          simp only [Act.put, List.setIfInBounds_toArray, List.set_cons_zero, List.set_cons_succ]
          refine wpAnyH_take (i := 16) (oi := { dst := some 45, op := Op.fieldAddr 69 (Operand.tmp 44) 0, type := 0, pos := "ref.go:53", after := #[{ on := 15, ground := Ground.data }, { on := 0, ground := Ground.phase }, { on := 1, ground := Ground.phase }, { on := 2, ground := Ground.phase }, { on := 3, ground := Ground.phase }, { on := 4, ground := Ground.phase }, { on := 5, ground := Ground.phase }, { on := 6, ground := Ground.phase }, { on := 7, ground := Ground.phase }, { on := 8, ground := Ground.phase }, { on := 9, ground := Ground.phase }, { on := 10, ground := Ground.phase }, { on := 11, ground := Ground.phase }, { on := 12, ground := Ground.phase }, { on := 13, ground := Ground.phase }, { on := 14, ground := Ground.phase }], guard := none }) (v := ?_) rfl (by kernel_rfl) (by kernel_rfl) (by kernel_rfl) (fun _ _ _ h => h) (Or.inl ⟨by rfl, ?_⟩) (by assumption) ?_
          rotate_left
          · (intro w hSw; (try dsimp only at hSw); go_simp; try with_reducible rfl)
          simp only [Act.put, List.setIfInBounds_toArray, List.set_cons_zero, List.set_cons_succ]
          refine wpAnyH_ready (rs := [17]) (by kernel_rfl) (by simp) ?_
          refine AllReadyH.cons (o := { dst := none, op := Op.store 66 (Operand.tmp 45) (Operand.tmp 43), type := 0, pos := "ref.go:53", after := #[{ on := 16, ground := Ground.data }, { on := 14, ground := Ground.data }, { on := 14, ground := Ground.chain }, { on := 0, ground := Ground.phase }, { on := 1, ground := Ground.phase }, { on := 2, ground := Ground.phase }, { on := 3, ground := Ground.phase }, { on := 4, ground := Ground.phase }, { on := 5, ground := Ground.phase }, { on := 6, ground := Ground.phase }, { on := 7, ground := Ground.phase }, { on := 8, ground := Ground.phase }, { on := 9, ground := Ground.phase }, { on := 10, ground := Ground.phase }, { on := 11, ground := Ground.phase }, { on := 12, ground := Ground.phase }, { on := 13, ground := Ground.phase }, { on := 14, ground := Ground.phase }], guard := none }) rfl (fun K hK => ?_) AllReadyH.nil
          go_simp
          try simp only []
          refine hK.out _ _ trivial (fun hHeld => ?_)
          clear hK K
          try simp only [Act.put, List.setIfInBounds_toArray, List.set_cons_zero, List.set_cons_succ]
          refine wpAnyH_done (by kernel_rfl) ?_ _
          go_wp2_with fail
          go_roundw
          case rel => exact ⟨i + 1, _, xs ++ [_], by omega, by go_num, by rw [List.length_append, HX.out]; rfl, HR.out.push (Nat.le_refl _) (Nat.le_refl _) (md.trans' hmv) (HV.out.to (by rw [HX.out]; exact sect_full _ HSL.out)) HK1.out HK2.out⟩
          case measure => simp [intOf]; omega
    · obtain rfl : i = n := by omega
      go_wp2
      go_ret2
      exact ⟨_, rfl, RB.born hB hR HI.out (by rw [HNL.out, hxl]; omega) (fun j hj => rfl)⟩
end Go.Proofs.Ytdinnkacilgmmaa
