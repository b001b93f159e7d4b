/- The reference's disk: Write, Sync. -/
import Derived.Test.YtdinnkacilgmmaaRDisk2
namespace Go.Proofs.Ytdinnkacilgmmaa
open Go.RowKit

theorem two_oneCell (n : Int) (a : Option Addr) (m c : Nat) : ∀ u ∈ [Value.int .i64 n, Value.slice a m c], u.oneCell' = true := by
  intro u hu
  simp only [List.mem_cons, List.not_mem_nil, or_false] at hu
  rcases hu with rfl | rfl <;> rfl

section
variable {w : World} {B p : Nat} {vs vl : Value} {xs ys : List Value} {D : Dsk}

theorem RV.still (h : RV w B p vs vl xs ys D) : Left (RDiskT B p D) (rfoot p vs vl xs ys) w w := ⟨Mod.refl _ _, _, ⟨vs, vl, xs, ys, h, rfl⟩, fun _ hk => .inl hk⟩

/-- memory behind Write -/
theorem rwrite_end {wa w3 : World} {v v' : Value} {x : Nat × List UInt8} {o : Obj} (h : RV w B p vs vl xs ys D) (hx : x.1 < D.N ∧ x.2.length = 256) (ma : Mod (fun _ => False) w wa) (hv : OwnB wa B v x.2) (hf : ∀ k, v.ownBlock = some k → w.heap.size ≤ k)
    (k1 : w3.ownsRow B 166 2 v' (D.l.length + 1) (lcells D.l ys ++ [.int .i64 (x.1 : Int), v])) (k2 : Mod (fun k => some k = vl.ownBlock) (wa.alloc o) w3) (k3 : v'.ownBlock = vl.ownBlock ∨ v'.ownBlock = some (wa.alloc o).heap.size) :
    Left (RDiskT B p { D with l := D.l ++ [x] }) (rfoot p vs vl xs ys) w (w3.setCell ⟨p, 1, none⟩ v') := by
  have m1 : Mod (fun _ => False) w (wa.alloc o) := ma.trans' (Mod.alloc _ _ _)
  have h1 := h.mod m1 (fun _ _ => id)
  have hne := h.ne
  have a3 := k2.obj h1.at_ (fun e => hne.2.1 e.symm)
  have a4 := setCell_block (i := 1) a3 v'
  have m3 : Mod (fun k => k = p) w3 (w3.setCell ⟨p, 1, none⟩ v') := Mod.setCell _ _ _ rfl
  have hpl := (h.lt p (.inl rfl)).2
  have keep : ∀ {u : Value} {l : List UInt8}, OwnB (wa.alloc o) B u l → OwnB (w3.setCell ⟨p, 1, none⟩ v') B u l := fun {u l} hu => by
    have hty : ∀ k, u.ownBlock = some k → some k ≠ vl.ownBlock := fun k hk e => by
      obtain ⟨c, hc⟩ := own_type hu hk
      exact own_ne h1.l hc (by decide) e.symm
    refine (hu.mod k2 hty).mod m3 (fun k hk e => ?_)
    subst e
    exact own_ne (hu.mod k2 hty) a3 (by decide) hk
  refine ⟨?_, _, ⟨vs, v', xs, ys ++ [v], ⟨?_, by simpa using a4, h.hp, ?_, h.hx, fun i hi => keep (h1.ex i hi), ?_, ?_, fun i hi h2 => ?_⟩, rfl⟩, ?_⟩
  · refine ((m1.mono (fun _ _ e => e.elim)).trans k2 (fun i _ e => .inr (.inr (.inl e.symm)))).trans m3 (fun i _ e => .inl e)
  · exact ⟨h.wf.len, h.wf.pos, h.wf.top, fun y hy => by
      rcases List.mem_append.1 hy with hy | hy
      · exact h.wf.l y hy
      · rw [List.mem_singleton.1 hy]; exact hx⟩
  · refine owns_mod (owns_mod h1.safe k2 (fun k hk e => hne.2.2.1 k e.symm hk)) m3 (fun k hk e => hne.1 (by rw [hk, e]))
  · show (w3.setCell ⟨p, 1, none⟩ v').ownsRow B 166 2 v' (D.l ++ [x]).length (lcells (D.l ++ [x]) (ys ++ [v]))
    rw [List.length_append, lcells_snoc _ _ h.hy]
    refine owns_mod k1 m3 (fun k hk e => ?_)
    subst e
    exact own_ne k1 a3 (by decide) hk
  · rw [List.length_append, List.length_append, h.hy]; rfl
  · by_cases e : i < ys.length
    · have e2 : i < D.l.length := by rw [← h.hy]; exact e
      simp only [List.getElem_append_left e, List.getElem_append_left e2]
      exact keep (h1.ey i e e2)
    · have hh := h.hy
      have : i = ys.length := by simp at hi; omega
      subst this
      simp only [List.getElem_append_right (Nat.le_refl _), List.getElem_append_right (show D.l.length ≤ ys.length by omega)]
      simpa [hh] using keep (hv.mod (Mod.alloc (fun _ => False) _ _) (fun _ _ => id))
  · rintro k (e | e | e | ⟨y, hy, e⟩ | ⟨y, hy, e⟩)
    · exact .inl (.inl e)
    · exact .inl (.inr (.inl e))
    · rcases k3 with e2 | e2
      · exact .inl (.inr (.inr (.inl (by rw [← e2]; exact e))))
      · rw [e2] at e
        cases e
        exact .inr m1.size
    · exact .inl (.inr (.inr (.inr (.inl ⟨y, hy, e⟩))))
    · rcases List.mem_append.1 hy with hy | hy
      · exact .inl (.inr (.inr (.inr (.inr ⟨y, hy, e⟩))))
      · rw [List.mem_singleton.1 hy] at e
        exact .inr (hf k e)

set_option maxRecDepth 100000 in
theorem rwrite_no (h : RV w B p vs vl xs ys D) (n : Int) (a : Option Addr) (b : List UInt8) (cap : Nat) (hm : b.length ≤ 140737488355328) (hw : D.why n b ≠ 0) :
    Calls Try.prog 90 #[.pointer (some ⟨p, 0, none⟩), .int .i64 n, .slice a b.length cap] w fun e w' => e = .returned (.int .i64 (D.why n b)) ∧ w = w' := by
  obtain ⟨c0, -, -, c3, c4⟩ := h.cell
  obtain ⟨as1, cs1, es, -, -, -⟩ := owns_shape h.safe
  subst es
  rw [h.hx] at c0
  have htop := h.wf.top
  by_cases hg : D.gone = true
  · have e : D.why n b = 21 := by simp [Dsk.why, hg]
    rw [e]
    rw [hg] at c4
    go_enter Try.func90, Try.ntmps90
    go_wp2
    go_ret
    exact ⟨rfl, rfl⟩
  have hg : D.gone = false := by simpa using hg
  rw [hg] at c4
  by_cases hn : n < 0
  · have e : D.why n b = 1 := by simp [Dsk.why, hg, hn]
    rw [e]
    go_enter Try.func90, Try.ntmps90
    go_wp2
    go_ret
    exact ⟨rfl, rfl⟩
  by_cases hn2 : (D.N : Int) ≤ n
  · have e : D.why n b = 1 := by simp [Dsk.why, hg, hn2]
    rw [e]
    go_enter Try.func90, Try.ntmps90
    go_wp2
    go_ret
    exact ⟨rfl, rfl⟩
  by_cases hl : 256 < b.length
  · have e : D.why n b = 3 := by simp [Dsk.why, hg, hn, hn2, hl]
    have hl' : (256 : Int) < (b.length : Int) := by omega
    rw [e]
    go_enter Try.func90, Try.ntmps90
    go_wp2
    go_ret
    exact ⟨rfl, rfl⟩
  by_cases hf : D.full = true
  · have e : D.why n b = 4 := by simp [Dsk.why, hg, hn, hn2, hl, hf]
    have hl' : (b.length : Int) ≤ 256 := by omega
    rw [e]
    rw [hf] at c3
    go_enter Try.func90, Try.ntmps90
    go_wp2
    go_ret
    exact ⟨rfl, rfl⟩
  · exact absurd (by simp [Dsk.why, hg, hn, hn2, hl, hf]) hw

set_option maxHeartbeats 1000000 in
set_option maxRecDepth 100000 in
theorem rwrite_ok (h : RV w B p vs vl xs ys D) (n : Nat) (a : Option Addr) (b : List UInt8) (cap : Nat) (hb : BytesAt w a b) (hg : D.gone = false) (hn : n < D.N) (hl : b.length ≤ 256) (hf : D.full = false) (hlim : D.l.length + 1 ≤ 1048576) :
    Calls Try.prog 90 #[.pointer (some ⟨p, 0, none⟩), .int .i64 (n : Int), .slice a b.length cap] w fun e w' => e = .returned (.int .i64 0) ∧ Left (RDiskT B p { D with l := D.l ++ [(n, sect b)] }) (rfoot p vs vl xs ys) w w' := by
  obtain ⟨c0, c1, -, c3, c4⟩ := h.cell
  obtain ⟨as1, cs1, es, -, -, -⟩ := owns_shape h.safe
  obtain ⟨al1, cl1, el, -, -, -⟩ := owns_shape h.l
  rw [es] at c0
  rw [h.hx] at c0
  rw [hg] at c4
  rw [hf] at c3
  have hn' : (n : Int) < (D.N : Int) := by omega
  have hn0 : ¬ (n : Int) < 0 := by omega
  have hl' : (b.length : Int) ≤ 256 := by omega
  have htop := h.wf.top
  have hHB := (h.lt p (.inl rfl)).1
  have hHL := (h.lt p (.inl rfl)).2
  have hsl := sect_length b hl
  have HH := Lib.hid h
  have HHX := Lib.hid h.hx
  have HES := Lib.hid es
  have HEL := Lib.hid el
  have HPV := Lib.hid (h.ne.2.1)
  have HAT := Lib.hid h.at_
  have HSL := Lib.hid hsl
  have HLIM := Lib.hid hlim
  clear h hg hf hsl hlim
  go_enter Try.func90, Try.ntmps90
  go_upto_region 9 with fail
  have md : Mod (fun _ => False) w w.drew := Mod.drew _ _
  rw [HEL.out] at c1
  have d1 : w.drew.cell? ⟨p, 1, none⟩ = some (.slice al1 D.l.length cl1) := by simpa using c1
  have hbd : BytesAt w.drew a b := hb.mod md (fun _ _ _ => id)
  have HBD := Lib.hid hbd
  clear hbd hb c0 c3 c4 es el
  refine wp_region_held_drew (S := fun _ => True) (by kernel_rfl) (trivial) (fun hHeld => ?_)
  refine wpAnyH_take (i := 0) (oi := { dst := some 33, op := Op.move (Operand.tmp 0), type := 60, pos := "ref.go:93", after := #[], guard := none }) (v := ?_) rfl (by kernel_rfl) (by kernel_rfl) (by kernel_rfl) (fun _ _ _ h => h) (Or.inl ⟨by rfl, ?_⟩) (by assumption) ?_
  rotate_left
  · (intro w hSw; (try dsimp only at hSw); go_simp; try with_reducible rfl)
  simp only [Act.put, List.setIfInBounds_toArray, List.set_cons_zero, List.set_cons_succ]
  refine wpAnyH_take (i := 1) (oi := { dst := some 34, op := Op.move (Operand.tmp 0), type := 60, pos := "ref.go:93", after := #[], guard := none }) (v := ?_) rfl (by kernel_rfl) (by kernel_rfl) (by kernel_rfl) (fun _ _ _ h => h) (Or.inl ⟨by rfl, ?_⟩) (by assumption) ?_
  rotate_left
  · (intro w hSw; (try dsimp only at hSw); go_simp; try with_reducible rfl)
  simp only [Act.put, List.setIfInBounds_toArray, List.set_cons_zero, List.set_cons_succ]
  refine wpAnyH_take (i := 2) (oi := { dst := some 35, op := Op.nilCheck (Operand.tmp 34), type := 0, pos := "ref.go:93", after := #[{ on := 1, ground := Ground.data }], guard := none }) (v := ?_) rfl (by kernel_rfl) (by kernel_rfl) (by kernel_rfl) (fun _ _ _ h => h) (Or.inl ⟨by rfl, ?_⟩) (by assumption) ?_
  rotate_left
  · (intro w hSw; (try dsimp only at hSw); go_simp; try with_reducible rfl)
  simp only [Act.put, List.setIfInBounds_toArray, List.set_cons_zero, List.set_cons_succ]
  refine wpAnyH_take (i := 3) (oi := { dst := some 36, op := Op.fieldAddr 69 (Operand.tmp 35) 1, type := 0, pos := "ref.go:93", after := #[{ on := 2, ground := Ground.data }], guard := none }) (v := ?_) rfl (by kernel_rfl) (by kernel_rfl) (by kernel_rfl) (fun _ _ _ h => h) (Or.inl ⟨by rfl, ?_⟩) (by assumption) ?_
  rotate_left
  · (intro w hSw; (try dsimp only at hSw); go_simp; try with_reducible rfl)
  simp only [Act.put, List.setIfInBounds_toArray, List.set_cons_zero, List.set_cons_succ]
  refine wpAnyH_take (i := 5) (oi := { dst := some 38, op := Op.move (Operand.tmp 1), type := 3, pos := "ref.go:93", after := #[], guard := none }) (v := ?_) rfl (by kernel_rfl) (by kernel_rfl) (by kernel_rfl) (fun _ _ _ h => h) (Or.inl ⟨by rfl, ?_⟩) (by assumption) ?_
  rotate_left
  · (intro w hSw; (try dsimp only at hSw); go_simp; try with_reducible rfl)
  simp only [Act.put, List.setIfInBounds_toArray, List.set_cons_zero, List.set_cons_succ]
  refine wpAnyH_take (i := 6) (oi := { dst := some 39, op := Op.move (Operand.tmp 2), type := 22, pos := "ref.go:93", after := #[], guard := none }) (v := ?_) rfl (by kernel_rfl) (by kernel_rfl) (by kernel_rfl) (fun _ _ _ h => h) (Or.inl ⟨by rfl, ?_⟩) (by assumption) ?_
  rotate_left
  · (intro w hSw; (try dsimp only at hSw); go_simp; try with_reducible rfl)
  simp only [Act.put, List.setIfInBounds_toArray, List.set_cons_zero, List.set_cons_succ]
  refine wpAnyH_ready (rs := [4, 7]) (by kernel_rfl) (by simp) ?_
  refine AllReadyH.cons (o := { dst := some 37, op := Op.load 67 (Operand.tmp 36), type := 67, pos := "ref.go:93", after := #[{ on := 3, ground := Ground.data }], guard := none }) rfl (fun K hK => ?_) (AllReadyH.cons (o := { dst := some 40, op := Op.call { callee := Callee.value (Operand.func 89), args := #[Operand.tmp 39], argTypes := #[22] }, type := 22, pos := "ref.go:93", after := #[{ on := 6, ground := Ground.data }], guard := none }) rfl (fun K hK => ?_) AllReadyH.nil)
  ·
    go_simp
    try simp only []
    refine hK.out _ _ trivial (fun hHeld => ?_)
    clear hK K
    try simp only [Act.put, List.setIfInBounds_toArray, List.set_cons_zero, List.set_cons_succ]
    refine wpAnyH_ready (rs := [7]) (by kernel_rfl) (by simp) ?_
    refine AllReadyH.cons (o := { dst := some 40, op := Op.call { callee := Callee.value (Operand.func 89), args := #[Operand.tmp 39], argTypes := #[22] }, type := 22, pos := "ref.go:93", after := #[{ on := 6, ground := Ground.data }], guard := none }) rfl (fun K hK => ?_) AllReadyH.nil
    go_simp
    refine (rfull_any a b cap w.drew B (by simp; omega) HBD.out hl).mono ?_
    rintro e wa ⟨v, rfl, hv, hmv, hnv⟩
    have hca : wa.cell? ⟨p, 1, none⟩ = some (.slice al1 D.l.length cl1) := hmv.cell' d1 id
    have hcb : ∀ X, (wa.alloc X).cell? ⟨p, 1, none⟩ = some (.slice al1 D.l.length cl1) := fun X => (Mod.alloc (fun _ => False) wa X).cell' hca id
    obtain ⟨av, cv, ev, -, -, -⟩ := hv.shape
    rw [HSL.out] at ev
    subst ev
    try simp only []
    refine hK.out _ _ (trivial) (fun _ => ?_)
    clear hK K
    try simp only [Act.put, List.setIfInBounds_toArray, List.set_cons_zero, List.set_cons_succ]
    refine wpAnyH_take (i := 8) (oi := { dst := some 41, op := Op.build 166 #[(0, Operand.tmp 38), (1, Operand.tmp 40)], type := 166, pos := "ref.go:93", after := #[{ on := 5, ground := Ground.data }, { on := 7, ground := Ground.data }], guard := none }) (v := ?_) rfl (by kernel_rfl) (by kernel_rfl) (by kernel_rfl) (fun _ _ _ h => h) (Or.inl ⟨by rfl, ?_⟩) (by assumption) ?_
    rotate_left
    · (intro w hSw; (try dsimp only at hSw); go_simp; try with_reducible rfl)
    simp only [Act.put, List.setIfInBounds_toArray, List.set_cons_zero, List.set_cons_succ]
    refine wpAnyH_ready (rs := [9]) (by kernel_rfl) (by simp) ?_
    refine AllReadyH.cons (o := { dst := some 42, op := Op.buildSlice 67 1 #[(0, Operand.tmp 41)], type := 67, pos := "ref.go:93", after := #[{ on := 8, ground := Ground.data }], guard := none }) rfl (fun K hK => ?_) AllReadyH.nil
    go_simp
    try simp only []
    refine hK.out _ _ trivial (fun hHeld => ?_)
    clear hK K
    try simp only [Act.put, List.setIfInBounds_toArray, List.set_cons_zero, List.set_cons_succ]
    refine wpAnyH_ready (rs := [10]) (by kernel_rfl) (by simp) ?_
    refine AllReadyH.cons (o := { dst := some 43, op := Op.call { callee := Callee.builtin Builtin.append, args := #[Operand.tmp 37, Operand.tmp 42], argTypes := #[67, 67] }, type := 67, pos := "ref.go:93", after := #[{ on := 4, ground := Ground.data }, { on := 9, ground := Ground.data }, { on := 7, ground := Ground.chain }], guard := none }) rfl (fun K hK => ?_) AllReadyH.nil
    clear hcb hca
    refine appR_step 67 166 _ 2 32 Try.underlying67 info166 rfl (by decide) (by decide) rfl _ _ rfl B (.slice al1 D.l.length cl1) D.l.length (lcells D.l ys) rfl (by rw [← HEL.out]; exact owns_mod HH.out.l (md.trans' (hmv.trans' (Mod.alloc _ _ _))) (fun _ _ => id)) ⟨wa.heap.size, 0, none⟩ 1 1 [.int .i64 (n : Int), .slice av 256 cv] rfl rfl (cells_new wa _ 166) (two_oneCell _ _ _ _) HLIM.out (by have := hmv.size; simp at this ⊢; omega) ?_
    intro v' w3 k1 k2 k3
    obtain ⟨a3, c3, e3, -, -, -⟩ := owns_shape k1
    subst e3
    rw [← HEL.out] at k2 k3
    have hat3 := k2.obj ((md.trans' (hmv.trans' (Mod.alloc _ _ _))).obj HAT.out id) (fun e => HPV.out e.symm)
    have d0 := cell_of_row w3 p 1 _ 69 (0, 0) hat3
    have t0 := thaw_of (i := 1) hat3
    have HK1 := Lib.hid k1
    have HK2 := Lib.hid k2
    have HK3 := Lib.hid k3
    have HV := Lib.hid hv
    clear k1 k2 k3 hat3 hv
    simp only [Act.put, List.setIfInBounds_toArray, List.set_cons_zero, List.set_cons_succ]
    refine hK.out _ _ (trivial) (fun _ => ?_)
    clear hK K
    try simp only [Act.put, List.setIfInBounds_toArray, List.set_cons_zero, List.set_cons_succ]
    refine wpAnyH_take (i := 11) (oi := { dst := some 44, op := Op.nilCheck (Operand.tmp 33), type := 0, pos := "ref.go:93", after := #[{ on := 0, ground := Ground.data }, { on := 0, ground := Ground.phase }, { on := 1, ground := Ground.phase }, { on := 2, ground := Ground.phase }, { on := 3, ground := Ground.phase }, { on := 4, ground := Ground.phase }, { on := 5, ground := Ground.phase }, { on := 6, ground := Ground.phase }, { on := 7, ground := Ground.phase }, { on := 8, ground := Ground.phase }, { on := 9, ground := Ground.phase }, { on := 10, ground := Ground.phase }], guard := none }) (v := ?_) rfl (by kernel_rfl) (by kernel_rfl) (by kernel_rfl) (fun _ _ _ h => h) (Or.inl ⟨by rfl, ?_⟩) (by assumption) ?_
    rotate_left
    · (intro w hSw; (try dsimp only at hSw); go_simp; try with_reducible rfl)
    simp only [Act.put, List.setIfInBounds_toArray, List.set_cons_zero, List.set_cons_succ]
    refine wpAnyH_take (i := 12) (oi := { dst := some 45, op := Op.fieldAddr 69 (Operand.tmp 44) 1, type := 0, pos := "ref.go:93", after := #[{ on := 11, ground := Ground.data }, { on := 0, ground := Ground.phase }, { on := 1, ground := Ground.phase }, { on := 2, ground := Ground.phase }, { on := 3, ground := Ground.phase }, { on := 4, ground := Ground.phase }, { on := 5, ground := Ground.phase }, { on := 6, ground := Ground.phase }, { on := 7, ground := Ground.phase }, { on := 8, ground := Ground.phase }, { on := 9, ground := Ground.phase }, { on := 10, ground := Ground.phase }], guard := none }) (v := ?_) rfl (by kernel_rfl) (by kernel_rfl) (by kernel_rfl) (fun _ _ _ h => h) (Or.inl ⟨by rfl, ?_⟩) (by assumption) ?_
    rotate_left
    · (intro w hSw; (try dsimp only at hSw); go_simp; try with_reducible rfl)
    simp only [Act.put, List.setIfInBounds_toArray, List.set_cons_zero, List.set_cons_succ]
    refine wpAnyH_ready (rs := [13]) (by kernel_rfl) (by simp) ?_
    refine AllReadyH.cons (o := { dst := none, op := Op.store 67 (Operand.tmp 45) (Operand.tmp 43), type := 0, pos := "ref.go:93", after := #[{ on := 12, ground := Ground.data }, { on := 10, ground := Ground.data }, { on := 10, ground := Ground.chain }, { on := 0, ground := Ground.phase }, { on := 1, ground := Ground.phase }, { on := 2, ground := Ground.phase }, { on := 3, ground := Ground.phase }, { on := 4, ground := Ground.phase }, { on := 5, ground := Ground.phase }, { on := 6, ground := Ground.phase }, { on := 7, ground := Ground.phase }, { on := 8, ground := Ground.phase }, { on := 9, ground := Ground.phase }, { on := 10, ground := Ground.phase }], guard := none }) rfl (fun K hK => ?_) AllReadyH.nil
    go_simp
    try simp only []
    refine hK.out _ _ trivial (fun hHeld => ?_)
    clear hK K
    try simp only [Act.put, List.setIfInBounds_toArray, List.set_cons_zero, List.set_cons_succ]
    refine wpAnyH_done (by kernel_rfl) ?_ _
    go_wp2
    go_ret
    exact ⟨rfl, rwrite_end HH.out ⟨hn, HSL.out⟩ (md.trans' hmv) HV.out (fun k hk => by have := hnv k hk; simpa using this) HK1.out HK2.out HK3.out⟩
  ·
    go_simp
    refine (rfull_any a b cap w.drew B (by simp; omega) HBD.out hl).mono ?_
    rintro e wa ⟨v, rfl, hv, hmv, hnv⟩
    have hca : wa.cell? ⟨p, 1, none⟩ = some (.slice al1 D.l.length cl1) := hmv.cell' d1 id
    have hcb : ∀ X, (wa.alloc X).cell? ⟨p, 1, none⟩ = some (.slice al1 D.l.length cl1) := fun X => (Mod.alloc (fun _ => False) wa X).cell' hca id
    obtain ⟨av, cv, ev, -, -, -⟩ := hv.shape
    rw [HSL.out] at ev
    subst ev
    try simp only []
    refine hK.out _ _ (trivial) (fun _ => ?_)
    clear hK K
    try simp only [Act.put, List.setIfInBounds_toArray, List.set_cons_zero, List.set_cons_succ]
    refine wpAnyH_take (i := 8) (oi := { dst := some 41, op := Op.build 166 #[(0, Operand.tmp 38), (1, Operand.tmp 40)], type := 166, pos := "ref.go:93", after := #[{ on := 5, ground := Ground.data }, { on := 7, ground := Ground.data }], guard := none }) (v := ?_) rfl (by kernel_rfl) (by kernel_rfl) (by kernel_rfl) (fun _ _ _ h => h) (Or.inl ⟨by rfl, ?_⟩) (by assumption) ?_
    rotate_left
    · (intro w hSw; (try dsimp only at hSw); go_simp; try with_reducible rfl)
    simp only [Act.put, List.setIfInBounds_toArray, List.set_cons_zero, List.set_cons_succ]
    refine wpAnyH_ready (rs := [4, 9]) (by kernel_rfl) (by simp) ?_
    refine AllReadyH.cons (o := { dst := some 37, op := Op.load 67 (Operand.tmp 36), type := 67, pos := "ref.go:93", after := #[{ on := 3, ground := Ground.data }], guard := none }) rfl (fun K hK => ?_) (AllReadyH.cons (o := { dst := some 42, op := Op.buildSlice 67 1 #[(0, Operand.tmp 41)], type := 67, pos := "ref.go:93", after := #[{ on := 8, ground := Ground.data }], guard := none }) rfl (fun K hK => ?_) AllReadyH.nil)
    ·
      go_simp
      try simp only []
      refine hK.out _ _ trivial (fun hHeld => ?_)
      clear hK K
      try simp only [Act.put, List.setIfInBounds_toArray, List.set_cons_zero, List.set_cons_succ]
      refine wpAnyH_ready (rs := [9]) (by kernel_rfl) (by simp) ?_
      refine AllReadyH.cons (o := { dst := some 42, op := Op.buildSlice 67 1 #[(0, Operand.tmp 41)], type := 67, pos := "ref.go:93", after := #[{ on := 8, ground := Ground.data }], guard := none }) rfl (fun K hK => ?_) AllReadyH.nil
      go_simp
      try simp only []
      refine hK.out _ _ trivial (fun hHeld => ?_)
      clear hK K
      try simp only [Act.put, List.setIfInBounds_toArray, List.set_cons_zero, List.set_cons_succ]
      refine wpAnyH_ready (rs := [10]) (by kernel_rfl) (by simp) ?_
      refine AllReadyH.cons (o := { dst := some 43, op := Op.call { callee := Callee.builtin Builtin.append, args := #[Operand.tmp 37, Operand.tmp 42], argTypes := #[67, 67] }, type := 67, pos := "ref.go:93", after := #[{ on := 4, ground := Ground.data }, { on := 9, ground := Ground.data }, { on := 7, ground := Ground.chain }], guard := none }) rfl (fun K hK => ?_) AllReadyH.nil
      clear hcb hca
      refine appR_step 67 166 _ 2 32 Try.underlying67 info166 rfl (by decide) (by decide) rfl _ _ rfl B (.slice al1 D.l.length cl1) D.l.length (lcells D.l ys) rfl (by rw [← HEL.out]; exact owns_mod HH.out.l (md.trans' (hmv.trans' (Mod.alloc _ _ _))) (fun _ _ => id)) ⟨wa.heap.size, 0, none⟩ 1 1 [.int .i64 (n : Int), .slice av 256 cv] rfl rfl (cells_new wa _ 166) (two_oneCell _ _ _ _) HLIM.out (by have := hmv.size; simp at this ⊢; omega) ?_
      intro v' w3 k1 k2 k3
      obtain ⟨a3, c3, e3, -, -, -⟩ := owns_shape k1
      subst e3
      rw [← HEL.out] at k2 k3
      have hat3 := k2.obj ((md.trans' (hmv.trans' (Mod.alloc _ _ _))).obj HAT.out id) (fun e => HPV.out e.symm)
      have d0 := cell_of_row w3 p 1 _ 69 (0, 0) hat3
      have t0 := thaw_of (i := 1) hat3
      have HK1 := Lib.hid k1
      have HK2 := Lib.hid k2
      have HK3 := Lib.hid k3
      have HV := Lib.hid hv
      clear k1 k2 k3 hat3 hv
      simp only [Act.put, List.setIfInBounds_toArray, List.set_cons_zero, List.set_cons_succ]
      refine hK.out _ _ (trivial) (fun _ => ?_)
      clear hK K
      try simp only [Act.put, List.setIfInBounds_toArray, List.set_cons_zero, List.set_cons_succ]
      refine wpAnyH_take (i := 11) (oi := { dst := some 44, op := Op.nilCheck (Operand.tmp 33), type := 0, pos := "ref.go:93", after := #[{ on := 0, ground := Ground.data }, { on := 0, ground := Ground.phase }, { on := 1, ground := Ground.phase }, { on := 2, ground := Ground.phase }, { on := 3, ground := Ground.phase }, { on := 4, ground := Ground.phase }, { on := 5, ground := Ground.phase }, { on := 6, ground := Ground.phase }, { on := 7, ground := Ground.phase }, { on := 8, ground := Ground.phase }, { on := 9, ground := Ground.phase }, { on := 10, ground := Ground.phase }], guard := none }) (v := ?_) rfl (by kernel_rfl) (by kernel_rfl) (by kernel_rfl) (fun _ _ _ h => h) (Or.inl ⟨by rfl, ?_⟩) (by assumption) ?_
      rotate_left
      · (intro w hSw; (try dsimp only at hSw); go_simp; try with_reducible rfl)
      simp only [Act.put, List.setIfInBounds_toArray, List.set_cons_zero, List.set_cons_succ]
      refine wpAnyH_take (i := 12) (oi := { dst := some 45, op := Op.fieldAddr 69 (Operand.tmp 44) 1, type := 0, pos := "ref.go:93", after := #[{ on := 11, ground := Ground.data }, { on := 0, ground := Ground.phase }, { on := 1, ground := Ground.phase }, { on := 2, ground := Ground.phase }, { on := 3, ground := Ground.phase }, { on := 4, ground := Ground.phase }, { on := 5, ground := Ground.phase }, { on := 6, ground := Ground.phase }, { on := 7, ground := Ground.phase }, { on := 8, ground := Ground.phase }, { on := 9, ground := Ground.phase }, { on := 10, ground := Ground.phase }], guard := none }) (v := ?_) rfl (by kernel_rfl) (by kernel_rfl) (by kernel_rfl) (fun _ _ _ h => h) (Or.inl ⟨by rfl, ?_⟩) (by assumption) ?_
      rotate_left
      · (intro w hSw; (try dsimp only at hSw); go_simp; try with_reducible rfl)
      simp only [Act.put, List.setIfInBounds_toArray, List.set_cons_zero, List.set_cons_succ]
      refine wpAnyH_ready (rs := [13]) (by kernel_rfl) (by simp) ?_
      refine AllReadyH.cons (o := { dst := none, op := Op.store 67 (Operand.tmp 45) (Operand.tmp 43), type := 0, pos := "ref.go:93", after := #[{ on := 12, ground := Ground.data }, { on := 10, ground := Ground.data }, { on := 10, ground := Ground.chain }, { on := 0, ground := Ground.phase }, { on := 1, ground := Ground.phase }, { on := 2, ground := Ground.phase }, { on := 3, ground := Ground.phase }, { on := 4, ground := Ground.phase }, { on := 5, ground := Ground.phase }, { on := 6, ground := Ground.phase }, { on := 7, ground := Ground.phase }, { on := 8, ground := Ground.phase }, { on := 9, ground := Ground.phase }, { on := 10, ground := Ground.phase }], guard := none }) rfl (fun K hK => ?_) AllReadyH.nil
      go_simp
      try simp only []
      refine hK.out _ _ trivial (fun hHeld => ?_)
      clear hK K
      try simp only [Act.put, List.setIfInBounds_toArray, List.set_cons_zero, List.set_cons_succ]
      refine wpAnyH_done (by kernel_rfl) ?_ _
      go_wp2
      go_ret
      exact ⟨rfl, rwrite_end HH.out ⟨hn, HSL.out⟩ (md.trans' hmv) HV.out (fun k hk => by have := hnv k hk; simpa using this) HK1.out HK2.out HK3.out⟩
    ·
      go_simp
      try simp only []
      refine hK.out _ _ trivial (fun hHeld => ?_)
      clear hK K
      try simp only [Act.put, List.setIfInBounds_toArray, List.set_cons_zero, List.set_cons_succ]
      refine wpAnyH_ready (rs := [4]) (by kernel_rfl) (by simp) ?_
      refine AllReadyH.cons (o := { dst := some 37, op := Op.load 67 (Operand.tmp 36), type := 67, pos := "ref.go:93", after := #[{ on := 3, ground := Ground.data }], guard := none }) rfl (fun K hK => ?_) AllReadyH.nil
      go_simp
      try simp only []
      refine hK.out _ _ trivial (fun hHeld => ?_)
      clear hK K
      try simp only [Act.put, List.setIfInBounds_toArray, List.set_cons_zero, List.set_cons_succ]
      refine wpAnyH_ready (rs := [10]) (by kernel_rfl) (by simp) ?_
      refine AllReadyH.cons (o := { dst := some 43, op := Op.call { callee := Callee.builtin Builtin.append, args := #[Operand.tmp 37, Operand.tmp 42], argTypes := #[67, 67] }, type := 67, pos := "ref.go:93", after := #[{ on := 4, ground := Ground.data }, { on := 9, ground := Ground.data }, { on := 7, ground := Ground.chain }], guard := none }) rfl (fun K hK => ?_) AllReadyH.nil
      clear hcb hca
      refine appR_step 67 166 _ 2 32 Try.underlying67 info166 rfl (by decide) (by decide) rfl _ _ rfl B (.slice al1 D.l.length cl1) D.l.length (lcells D.l ys) rfl (by rw [← HEL.out]; exact owns_mod HH.out.l (md.trans' (hmv.trans' (Mod.alloc _ _ _))) (fun _ _ => id)) ⟨wa.heap.size, 0, none⟩ 1 1 [.int .i64 (n : Int), .slice av 256 cv] rfl rfl (cells_new wa _ 166) (two_oneCell _ _ _ _) HLIM.out (by have := hmv.size; simp at this ⊢; omega) ?_
      intro v' w3 k1 k2 k3
      obtain ⟨a3, c3, e3, -, -, -⟩ := owns_shape k1
      subst e3
      rw [← HEL.out] at k2 k3
      have hat3 := k2.obj ((md.trans' (hmv.trans' (Mod.alloc _ _ _))).obj HAT.out id) (fun e => HPV.out e.symm)
      have d0 := cell_of_row w3 p 1 _ 69 (0, 0) hat3
      have t0 := thaw_of (i := 1) hat3
      have HK1 := Lib.hid k1
      have HK2 := Lib.hid k2
      have HK3 := Lib.hid k3
      have HV := Lib.hid hv
      clear k1 k2 k3 hat3 hv
      simp only [Act.put, List.setIfInBounds_toArray, List.set_cons_zero, List.set_cons_succ]
      refine hK.out _ _ (trivial) (fun _ => ?_)
      clear hK K
      try simp only [Act.put, List.setIfInBounds_toArray, List.set_cons_zero, List.set_cons_succ]
      refine wpAnyH_take (i := 11) (oi := { dst := some 44, op := Op.nilCheck (Operand.tmp 33), type := 0, pos := "ref.go:93", after := #[{ on := 0, ground := Ground.data }, { on := 0, ground := Ground.phase }, { on := 1, ground := Ground.phase }, { on := 2, ground := Ground.phase }, { on := 3, ground := Ground.phase }, { on := 4, ground := Ground.phase }, { on := 5, ground := Ground.phase }, { on := 6, ground := Ground.phase }, { on := 7, ground := Ground.phase }, { on := 8, ground := Ground.phase }, { on := 9, ground := Ground.phase }, { on := 10, ground := Ground.phase }], guard := none }) (v := ?_) rfl (by kernel_rfl) (by kernel_rfl) (by kernel_rfl) (fun _ _ _ h => h) (Or.inl ⟨by rfl, ?_⟩) (by assumption) ?_
      rotate_left
      · (intro w hSw; (try dsimp only at hSw); go_simp; try with_reducible rfl)
      simp only [Act.put, List.setIfInBounds_toArray, List.set_cons_zero, List.set_cons_succ]
      refine wpAnyH_take (i := 12) (oi := { dst := some 45, op := Op.fieldAddr 69 (Operand.tmp 44) 1, type := 0, pos := "ref.go:93", after := #[{ on := 11, ground := Ground.data }, { on := 0, ground := Ground.phase }, { on := 1, ground := Ground.phase }, { on := 2, ground := Ground.phase }, { on := 3, ground := Ground.phase }, { on := 4, ground := Ground.phase }, { on := 5, ground := Ground.phase }, { on := 6, ground := Ground.phase }, { on := 7, ground := Ground.phase }, { on := 8, ground := Ground.phase }, { on := 9, ground := Ground.phase }, { on := 10, ground := Ground.phase }], guard := none }) (v := ?_) rfl (by kernel_rfl) (by kernel_rfl) (by kernel_rfl) (fun _ _ _ h => h) (Or.inl ⟨by rfl, ?_⟩) (by assumption) ?_
      rotate_left
      · (intro w hSw; (try dsimp only at hSw); go_simp; try with_reducible rfl)
      simp only [Act.put, List.setIfInBounds_toArray, List.set_cons_zero, List.set_cons_succ]
      refine wpAnyH_ready (rs := [13]) (by kernel_rfl) (by simp) ?_
      refine AllReadyH.cons (o := { dst := none, op := Op.store 67 (Operand.tmp 45) (Operand.tmp 43), type := 0, pos := "ref.go:93", after := #[{ on := 12, ground := Ground.data }, { on := 10, ground := Ground.data }, { on := 10, ground := Ground.chain }, { on := 0, ground := Ground.phase }, { on := 1, ground := Ground.phase }, { on := 2, ground := Ground.phase }, { on := 3, ground := Ground.phase }, { on := 4, ground := Ground.phase }, { on := 5, ground := Ground.phase }, { on := 6, ground := Ground.phase }, { on := 7, ground := Ground.phase }, { on := 8, ground := Ground.phase }, { on := 9, ground := Ground.phase }, { on := 10, ground := Ground.phase }], guard := none }) rfl (fun K hK => ?_) AllReadyH.nil
      go_simp
      try simp only []
      refine hK.out _ _ trivial (fun hHeld => ?_)
      clear hK K
      try simp only [Act.put, List.setIfInBounds_toArray, List.set_cons_zero, List.set_cons_succ]
      refine wpAnyH_done (by kernel_rfl) ?_ _
      go_wp2
      go_ret
      exact ⟨rfl, rwrite_end HH.out ⟨hn, HSL.out⟩ (md.trans' hmv) HV.out (fun k hk => by have := hnv k hk; simpa using this) HK1.out HK2.out HK3.out⟩
end
end Go.Proofs.Ytdinnkacilgmmaa
