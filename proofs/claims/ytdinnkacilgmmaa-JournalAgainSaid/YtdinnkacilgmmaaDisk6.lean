/- The walk of Crash. -/
import Derived.Test.YtdinnkacilgmmaaDisk5
namespace Go.Proofs.Ytdinnkacilgmmaa
open Go.RowKit

/-- what a slice of numbers reads as -/
def IntsAt (w : World) (a : Option Addr) (l : List Int) : Prop :=
  l ≠ [] → ∃ b off, a = some ⟨b, off, none⟩ ∧ ∀ j (h : j < l.length), w.cell? ⟨b, off + j, none⟩ = some (.int .i64 l[j])

theorem IntsAt.mod {F : Nat → Prop} {w w' : World} {a : Option Addr} {l : List Int} (h : IntsAt w a l) (hm : Mod F w w') (hF : ∀ x, a = some x → l ≠ [] → ¬ F x.block) : IntsAt w' a l := by
  intro hl
  obtain ⟨b, off, rfl, hc⟩ := h hl
  exact ⟨b, off, rfl, fun j hj => hm.cell' (hc j hj) (hF ⟨b, off, none⟩ rfl hl)⟩

theorem BytesAt.take0 {w : World} {a : Option Addr} {l : List UInt8} (h : BytesAt w a l) (k : Nat) : BytesAt w a (l.take k) := by
  intro hne
  have hl : l ≠ [] := by intro e; subst e; simp at hne
  obtain ⟨b, off, rfl, hc⟩ := h hl
  refine ⟨b, off, rfl, fun j hj => ?_⟩
  have hj' : j < l.length := by simp at hj; omega
  rw [hc j hj']
  simp

theorem run_storeX (w : World) (X : List Value) (hX : X.length = chgSize) (h1 : ∀ u ∈ X, u.oneCell' = true) :
    (storeCells ⟨w.heap.size, 0, none⟩ X).run Try.prog (w.alloc (.cells Try.zeroCells132 132)) = .ok () (w.alloc (.cells X.toArray 132)) := by
  rw [zero132]
  have h := run_storeCells_from (P := Try.prog) w.heap.size 132 X 0 (chg (0, zeros256)).toArray (w.alloc (.cells (chg (0, zeros256)).toArray 132)) (heap_alloc_new w _) (by rw [Nat.zero_add, List.size_toArray, hX, chg_length (0, zeros256) zeros256_length]) h1
  rw [h]
  simp only [List.take_zero, List.nil_append]
  rw [setRow_alloc]

/-- the cells of write number i -/
theorem OwnC.range {w : World} {B g n cap : Nat} {l : List (Nat × List UInt8)} (h : OwnC w B (.slice (some ⟨g, 0, none⟩) n cap) l) (h256 : ∀ x ∈ l, x.2.length = 256) (i : Nat) (hi : i < l.length) :
    w.rangeAt g (i * chgSize) (chg l[i]) := by
  intro j v hv
  have hlen : j < chgSize := by
    have := (List.getElem?_eq_some_iff.1 hv).1
    rwa [chg_length _ (h256 _ (List.getElem_mem hi))] at this
  have hc := World.ownsRow.cells h (g := g) rfl (i * chgSize + j) v ?_
  · rw [Addr.add_mid, Nat.zero_add] at hc; exact hc
  · rw [← hv]
    clear h hv
    induction l generalizing i with
    | nil => simp at hi
    | cons x r ih =>
      have hx := chg_length x (h256 x List.mem_cons_self)
      show (chg x ++ chgs r)[i * chgSize + j]? = _
      cases i with
      | zero => rw [List.getElem?_append_left (by omega)]; simp
      | succ i =>
        rw [List.getElem?_append_right (by rw [hx, Nat.add_mul]; omega), hx, show (i + 1) * chgSize + j - chgSize = i * chgSize + j by rw [Nat.add_mul]; omega]
        simpa using ih (fun y hy => h256 y (List.mem_cons_of_mem _ hy)) i (by simpa using hi)

theorem info129_size : (Try.prog.info? 129).map (·.size) = some 6 := by kernel_rfl

set_option maxHeartbeats 1000000 in
set_option maxRecDepth 100000 in
theorem crash_any {w : World} {B p : Nat} {vs vn vl : Value} {D : Dsk} (h : DiskV w B p vs vn vl D) (a : Option Addr) (ks : List Int) (cap : Nat) (hk : IntsAt w a ks) (hkf : ∀ x, a = some x → ks ≠ [] → ¬ foot p vs vn vl x.block)
    (hm : ks.length ≤ 140737488355328) :
    Calls Try.prog 33 #[.pointer (some ⟨p, 0, none⟩), .slice a ks.length cap] w fun e w' => e = .returned (.int .i64 0) ∧ Turned w B p (foot p vs vn vl) (D.crash ks) w' := by
  obtain ⟨c0, c1, c2, c3, c4, c5⟩ := h.cell
  obtain ⟨al, capl, el, hle, hcm⟩ := h.l.shape
  rw [el] at c2
  have hmx : D.l.length ≤ 9223372036854775807 := by unfold maxLen at hcm; omega
  clear hcm
  have hp' := h.wf.pos'
  have hns : D.safe ≠ [] := by intro e; rw [e] at hp'; simp at hp'
  obtain ⟨gs, caps, curs, es, -, hgs, hles, -, hszs, -⟩ := h.safe.row hns
  go_enter Try.func33, Try.ntmps33
  go_wp2_with fail
  go_loopw [5, 6, 14] (fun _ _ v14 wr => ∃ (i : Nat) (s : List UInt8), i ≤ D.l.length ∧ v14 = .int .i64 (i : Int) ∧ s.length = D.safe.length ∧ OwnB wr B vs s ∧ Mod (fun k => k = gs) w wr ∧ crashed s (D.l.drop i) (ks.drop i) = crashed D.safe D.l ks)
    (fun _ _ v14 _ => D.l.length - (intOf v14).toNat)
  case atStart => exact ⟨0, D.safe, Nat.zero_le _, rfl, rfl, h.safe, Mod.refl _ _, by simp⟩
  case round =>
    obtain ⟨i, s, hi, rfl, hsl, hos, hmr, hcr⟩ := hrel
    by_cases hlt : i < D.l.length
    · have hox := h.l
      rw [el] at hox
      obtain ⟨gl, rfl⟩ : ∃ g, al = some ⟨g, 0, none⟩ := by
        rcases hox.2 with ⟨_, h0⟩ | ⟨g, cap', cur, e, -⟩
        · omega
        · cases e; exact ⟨g, rfl⟩
      have hlt' : (i : Int) < (D.l.length : Int) := by omega
      have h256 : ∀ x ∈ D.l, x.2.length = 256 := fun x hx => (h.wf.l x hx).2
      have hrg := OwnC.range hox h256 i hlt
      have hgl : vl.ownBlock = some gl := by rw [el]; rfl
      have hgs' : vs.ownBlock = some gs := by rw [es]; rfl
      have hne1 : ∀ k, vl.ownBlock = some k → ¬ k = gs := fun k hk e => (h.ne_sl.2.2.2 k hk).1 (by rw [hgs', e])
      have hrg' : wr.rangeAt gl (i * 257) (chg D.l[i]) := fun j v hv => hmr.cell' (hrg j v hv) (hne1 gl hgl)
      have hxl := h.wf.l D.l[i] (List.getElem_mem hlt)
      have hX : (chg D.l[i]).length = 257 := chg_length _ hxl.2
      have hX1 := chg_oneCell D.l[i]
      have hinf : (Try.prog.info? 132).map (·.size) = some (chg D.l[i]).length := by rw [info132_size, hX]; rfl
      have kst := run_storeX wr (chg D.l[i]) hX hX1
      obtain ⟨q, hq⟩ : ∃ q, wr.heap.size = q := ⟨_, rfl⟩
      rw [hq] at kst
      have hcr' : crashed (lay s D.l[i].1 (D.l[i].2.take (clamp (ks.getD i 0)))) (D.l.drop (i + 1)) (ks.drop (i + 1)) = crashed D.safe D.l ks := by
        rw [← hcr, List.drop_eq_getElem_cons hlt, crashed]
        congr 2
        · cases hd : ks.drop i with
          | nil =>
            have hge : ks.length ≤ i := by simpa using hd
            simp [hge]
          | cons k r =>
            have : ks[i]? = some k := by have := congrArg (·[0]?) hd; simpa using this
            simp [this]
        · rw [List.tail_drop]
      generalize hxx : D.l[i] = x at *
      obtain ⟨n, b⟩ := x
      have hcells : ∀ w' : World, w'.heap[q]? = some (.cells (chg (n, b)).toArray 132 (0, 0)) → w'.cell? ⟨q, 0, none⟩ = some (.int .i64 (n : Int)) ∧ BytesAt w' (some ⟨q, 1, none⟩) b := fun w' h' => ⟨by rw [cell_of_row w' q 0 _ 132 (0, 0) h']; simp [chg], (chg_cells (x := (n, b)) h').2⟩
      have HCELLS := Lib.hid hcells
      have HCR := Lib.hid hcr'
      clear hcells hcr' hcr hxx
      generalize hXX : chg (n, b) = X at *
      by_cases hik : i < ks.length
      · obtain ⟨bk, ok, rfl, hck⟩ := hk (by intro e; rw [e] at hik; simp at hik)
        have hik' : (i : Int) < (ks.length : Int) := by omega
        go_wp2_with (first | (refine wpList_load_mid rfl 132 (.tmp 17) rfl gl (i * 257) rfl X _ hrg' Try.underlying132 rfl hinf ?_))
        have hpg : ¬ p = gs := fun e => h.ne_sl.1 (by rw [hgs', e])
        have hpr := hmr.obj h.at_ hpg
        have hbs : bk ≠ gs := fun e => hkf ⟨bk, ok, none⟩ rfl (by intro e; rw [e] at hik; simp at hik) (.inr (.inl (by rw [hgs', e])))
        have m2 : Mod (fun _ => False) wr (wr.alloc (.cells X.toArray 132)) := Mod.alloc _ _ _
        have hw2q : (wr.alloc (.cells X.toArray 132)).heap[q]? = some (.cells X.toArray 132 (0, 0)) := by rw [← hq]; exact heap_alloc_new wr _
        have hpq : (wr.alloc (.cells X.toArray 132)).cell? ⟨p, 0, none⟩ = some vs := by rw [cell_of_row _ p 0 _ 129 (0, 0) (m2.obj hpr id)]; rfl
        have hkc : (wr.alloc (.cells X.toArray 132)).cell? ⟨bk, ok + i, none⟩ = some (.int .i64 ks[i]) := m2.cell' (hmr.cell' (hck i hik) hbs) id
        have ho2 := hos.mod m2 (fun _ _ => id)
        have m02 := hmr.trans m2 (fun _ _ e => e.elim)
        have hsz2 : q < (wr.alloc (.cells X.toArray 132)).heap.size := by simp [← hq]
        generalize wr.alloc (.cells X.toArray 132) = w2 at *
        obtain ⟨hqn, hqb⟩ := HCELLS.out w2 hw2q
        rw [es, ← hsl] at hpq
        rw [es, ← hsl] at ho2
        obtain ⟨gs', caps', curs', es', -, hgs2, hles2, -, hszs2, -⟩ := ho2.row (by intro e; rw [e] at hsl; simp at hsl; omega)
        cases es'
        have hnN : n < D.N := hxl.1
        have hN : D.N * 256 ≤ s.length := by rw [hsl]; exact Nat.le_of_eq h.wf.len.symm
        have hs1 : s.length ≤ 1048576 := by rw [hsl]; exact h.wf.bound
        have HSL := Lib.hid hsl
        have HXL := Lib.hid hxl
        clear hsl hxl
        generalize hkv : ks[i] = kv at *
        obtain ⟨mx, hmx⟩ : ∃ mx : Int, mx = (if 0 > kv then 0 else kv) := ⟨_, rfl⟩
        obtain ⟨m, hmm⟩ : ∃ m : Nat, m = clamp kv := ⟨_, rfl⟩
        have hmn : (m : Int) = if 256 < mx then 256 else mx := by rw [hmm, hmx]; unfold clamp; split <;> split <;> omega
        have kmx : ∀ (w : World) (ts : Array TypeId) (t : TypeId), (Builtin.max_ ts t #[.int .i64 kv, .int .i64 0]).run Try.prog w = .ok (.int .i64 mx) w := fun w ts t => by rw [run_max_int2, hmx]
        have kmn : ∀ (w : World) (ts : Array TypeId) (t : TypeId), (Builtin.min_ ts t #[.int .i64 mx, .int .i64 256]).run Try.prog w = .ok (.int .i64 (m : Int)) w := fun w ts t => by rw [run_min_int2, hmn]
        have hm256 : m ≤ 256 := by rw [hmm]; unfold clamp; omega
        have hm256' : (m : Int) ≤ 256 := by omega
        have HMM := Lib.hid hmm
        have hbm : (b.take m).length = m := by rw [List.length_take, HXL.out.2]; omega
        have hfit : n * 256 + (b.take m).length ≤ curs'.size := by rw [hbm]; omega
        have hqg : ¬ q = gs := by
          intro e
          have := (h.lt gs (.inr (.inl (by rw [hgs'])))).2
          have := hmr.size
          omega
        clear hmx hmn hmm
        go_region_held3 (fun w' => w'.cell? ⟨p, 0, none⟩ = some (.slice (some ⟨gs, 0, none⟩) s.length caps) ∧ w'.cell? ⟨q, 0, none⟩ = some (.int .i64 (n : Int)) ∧ w'.cell? ⟨bk, ok + i, none⟩ = some (.int .i64 kv))
          (first | (refine ⟨?_, ?_, ?_⟩ <;> simpa using (by assumption)) | exact ⟨m5.cell' (by simpa using hpq) hpg, m5.cell' (by simpa using hqn) hqg, m5.cell' (by simpa using hkc) hbs⟩)
          (first
            | (go_at_call 85; (with_reducible refine (at_any (some ⟨gs, 0, none⟩) s.length D.N caps n _ hN hles2 hnN hs1 gs 0 rfl).mono ?_); rintro e w' ⟨rfl, rfl⟩)
            | (refine copyB_step rfl _ _ rfl gs (n * 256) 256 256 rfl (some ⟨q, 1, none⟩) m 256 rfl (b.take m) hbm hm256 (by exact hqb.take0 m) curs' 5 (by exact hgs2) hfit ?_; intro w5 hw5 m5))
        all_goals
          go_wp2
          go_roundw
          case rel =>
            have hl5 := lay_length s n (b.take m) (by rw [hbm]; omega)
            refine ⟨i + 1, lay s n (b.take m), by omega, by go_num, hl5.trans HSL.out, ?_, m02.trans ((Mod.drew (fun k => k = gs) w2).trans' m5) (fun _ _ e => e), ?_⟩
            · rw [es, ← HSL.out]
              exact OwnB.laid (ho2.mod (Mod.drew (fun _ => False) w2) (fun _ _ => id)) (by exact hgs2) hw5 (by rw [hbm]; omega)
            · rw [HMM.out, ← HCR.out, ← hkv]
              simp [hik]
          case measure => simp [intOf]; omega
      · have hik' : (ks.length : Int) ≤ (i : Int) := by omega
        go_wp2_with (first | (refine wpList_load_mid rfl 132 (.tmp 17) rfl gl (i * 257) rfl X _ hrg' Try.underlying132 rfl hinf ?_))
        go_roundw
        case rel =>
          have m2 : Mod (fun _ => False) wr (wr.alloc (.cells X.toArray 132)) := Mod.alloc _ _ _
          refine ⟨i + 1, s, by omega, by go_num, hsl, hos.mod m2 (fun _ _ => id), hmr.trans m2 (fun _ _ e => e.elim), ?_⟩
          rw [← HCR.out]
          have hge : ks.length ≤ i := by omega
          simp [hge, clamp, lay_nil]
        case measure => simp [intOf]; omega
    · obtain rfl : i = D.l.length := by omega
      have hsc : s = crashed D.safe D.l ks := by rw [← hcr, List.drop_length]; rfl
      have hgs' : vs.ownBlock = some gs := by rw [es]; rfl
      have hpg : ¬ p = gs := fun e => h.ne_sl.1 (by rw [hgs', e])
      have hpr := hmr.obj h.at_ hpg
      have d0 : wr.cell? ⟨p, 0, none⟩ = some vs := by rw [cell_of_row _ p 0 _ 129 (0, 0) hpr]; rfl
      obtain ⟨a9, cs9, es2, -, -, hbs2⟩ := hos.shape
      rw [es2] at d0
      have hs1 : s.length ≤ 1048576 := by rw [hsl]; exact h.wf.bound
      go_wp2_with fail
      have hso : s ≠ [] := by intro e; rw [e] at hsl; simp at hsl; omega
      have ha9 : a9 = none → s = [] ∧ cs9 = 0 := by
        rintro rfl
        exfalso
        obtain ⟨_, _, e, _⟩ := hbs2 hso
        cases e
      have hwf := h.wf.crash ks
      have hDs : (D.crash ks).safe = s := hsc.symm
      have hDn : (D.crash ks).now = s := by rw [← hDs]; rfl
      have HSC := Lib.hid hsc
      have HSL := Lib.hid hsl
      clear hsc hsl
      refine wp_region_held_drew (S := fun w' => w'.cell? ⟨p, 0, none⟩ = some (.slice a9 s.length cs9)) (by kernel_rfl) (by simpa using d0) (fun hHeld => ?_)
      refine wpAnyH_take (i := 0) (oi := { dst := some 40, op := Op.move (Operand.tmp 0), type := 40, pos := "disk.go:157", after := #[], guard := none }) (v := .pointer (some ⟨p, 0, none⟩)) rfl (by kernel_rfl) (by kernel_rfl) (by kernel_rfl) (fun _ _ _ h => h) (Or.inl ⟨by rfl, fun w hSw => by clear hSw; go_simp⟩) (by assumption) ?_
      simp only [Act.put, List.setIfInBounds_toArray, List.set_cons_zero, List.set_cons_succ]
      refine wpAnyH_take (i := 1) (oi := { dst := some 41, op := Op.move (Operand.tmp 0), type := 40, pos := "disk.go:157", after := #[], guard := none }) (v := .pointer (some ⟨p, 0, none⟩)) rfl (by kernel_rfl) (by kernel_rfl) (by kernel_rfl) (fun _ _ _ h => h) (Or.inl ⟨by rfl, fun w hSw => by clear hSw; go_simp⟩) (by assumption) ?_
      simp only [Act.put, List.setIfInBounds_toArray, List.set_cons_zero, List.set_cons_succ]
      refine wpAnyH_take (i := 2) (oi := { dst := some 42, op := Op.nilCheck (Operand.tmp 41), type := 0, pos := "disk.go:157", after := #[{ on := 1, ground := Ground.data }], guard := none }) (v := .pointer (some ⟨p, 0, none⟩)) rfl (by kernel_rfl) (by kernel_rfl) (by kernel_rfl) (fun _ _ _ h => h) (Or.inl ⟨by rfl, fun w hSw => by clear hSw; go_simp⟩) (by assumption) ?_
      simp only [Act.put, List.setIfInBounds_toArray, List.set_cons_zero, List.set_cons_succ]
      refine wpAnyH_take (i := 3) (oi := { dst := some 43, op := Op.fieldAddr 129 (Operand.tmp 42) 0, type := 0, pos := "disk.go:157", after := #[{ on := 2, ground := Ground.data }], guard := none }) (v := .pointer (some ⟨p, 0, none⟩)) rfl (by kernel_rfl) (by kernel_rfl) (by kernel_rfl) (fun _ _ _ h => h) (Or.inl ⟨by rfl, fun w hSw => by clear hSw; go_simp⟩) (by assumption) ?_
      simp only [Act.put, List.setIfInBounds_toArray, List.set_cons_zero, List.set_cons_succ]
      refine wpAnyH_take (i := 4) (oi := { dst := some 44, op := Op.load 22 (Operand.tmp 43), type := 22, pos := "disk.go:157", after := #[{ on := 3, ground := Ground.data }], guard := none }) (v := .slice a9 s.length cs9) rfl (by kernel_rfl) (by kernel_rfl) (by kernel_rfl) (fun _ _ _ h => h) (Or.inl ⟨by rfl, fun w hSw => by have hS1 := hSw; clear hSw; dsimp only at hS1; go_simp⟩) (by assumption) ?_
      simp only [Act.put, List.setIfInBounds_toArray, List.set_cons_zero, List.set_cons_succ]
      refine wpAnyH_take (i := 5) (oi := { dst := some 45, op := Op.move (Operand.tmp 0), type := 40, pos := "disk.go:157", after := #[], guard := none }) (v := .pointer (some ⟨p, 0, none⟩)) rfl (by kernel_rfl) (by kernel_rfl) (by kernel_rfl) (fun _ _ _ h => h) (Or.inl ⟨by rfl, fun w hSw => by clear hSw; go_simp⟩) (by assumption) ?_
      simp only [Act.put, List.setIfInBounds_toArray, List.set_cons_zero, List.set_cons_succ]
      refine wpAnyH_take (i := 6) (oi := { dst := some 46, op := Op.nilCheck (Operand.tmp 45), type := 0, pos := "disk.go:157", after := #[{ on := 5, ground := Ground.data }], guard := none }) (v := .pointer (some ⟨p, 0, none⟩)) rfl (by kernel_rfl) (by kernel_rfl) (by kernel_rfl) (fun _ _ _ h => h) (Or.inl ⟨by rfl, fun w hSw => by clear hSw; go_simp⟩) (by assumption) ?_
      simp only [Act.put, List.setIfInBounds_toArray, List.set_cons_zero, List.set_cons_succ]
      refine wpAnyH_take (i := 7) (oi := { dst := some 47, op := Op.fieldAddr 129 (Operand.tmp 46) 0, type := 0, pos := "disk.go:157", after := #[{ on := 6, ground := Ground.data }], guard := none }) (v := .pointer (some ⟨p, 0, none⟩)) rfl (by kernel_rfl) (by kernel_rfl) (by kernel_rfl) (fun _ _ _ h => h) (Or.inl ⟨by rfl, fun w hSw => by clear hSw; go_simp⟩) (by assumption) ?_
      simp only [Act.put, List.setIfInBounds_toArray, List.set_cons_zero, List.set_cons_succ]
      refine wpAnyH_take (i := 8) (oi := { dst := some 48, op := Op.load 22 (Operand.tmp 47), type := 22, pos := "disk.go:157", after := #[{ on := 7, ground := Ground.data }], guard := none }) (v := .slice a9 s.length cs9) rfl (by kernel_rfl) (by kernel_rfl) (by kernel_rfl) (fun _ _ _ h => h) (Or.inl ⟨by rfl, fun w hSw => by have hS1 := hSw; clear hSw; dsimp only at hS1; go_simp⟩) (by assumption) ?_
      simp only [Act.put, List.setIfInBounds_toArray, List.set_cons_zero, List.set_cons_succ]
      refine wpAnyH_ready (rs := [9]) (by kernel_rfl) (by simp) ?_
      refine AllReadyH.cons (o := { dst := some 49, op := Op.call { callee := Callee.value (Operand.func 86), args := #[Operand.tmp 48], argTypes := #[22] }, type := 22, pos := "disk.go:157", after := #[{ on := 8, ground := Ground.data }], guard := none }) rfl (fun K hK => ?_) AllReadyH.nil
      go_simp
      refine (clone_any a9 s cs9 _ B (by have := hmr.size; have := (h.lt p foot_p); simp; omega) (by omega) ha9 (by exact hbs2)).mono ?_
      rintro e w3 ⟨v3, rfl, o3, m3, n3⟩
      have hp3 := ((Mod.drew (fun _ => False) wr).trans' m3).obj hpr id
      have d3 : w3.cell? ⟨p, 0, none⟩ = some (.slice a9 s.length cs9) := by rw [cell_of_row _ p 0 _ 129 (0, 0) hp3]; simp [es2]
      have o3' := o3
      obtain ⟨b3, k3, rfl, -, -, -⟩ := o3.shape
      simp only []
      refine hK.out _ _ d3 (fun hHeld => ?_)
      clear hK K
      refine wpAnyH_take (i := 10) (oi := { dst := some 50, op := Op.build 129 #[(0, Operand.tmp 44), (1, Operand.tmp 49)], type := 129, pos := "disk.go:157", after := #[{ on := 4, ground := Ground.data }, { on := 9, ground := Ground.data }], guard := none }) (v := .agg #[.slice a9 s.length cs9, .slice b3 s.length k3, .slice none 0 0, .bool false, .bool false, .bool false]) rfl (by kernel_rfl) (by kernel_rfl) (by kernel_rfl) (fun _ _ _ h => h) (Or.inl ⟨by rfl, fun w hSw => by clear hSw; go_simp⟩) (by assumption) ?_
      simp only [Act.put, List.setIfInBounds_toArray, List.set_cons_zero, List.set_cons_succ]
      refine wpAnyH_take (i := 11) (oi := { dst := some 51, op := Op.nilCheck (Operand.tmp 40), type := 0, pos := "disk.go:157", after := #[{ on := 0, ground := Ground.data }, { on := 0, ground := Ground.phase }, { on := 1, ground := Ground.phase }, { on := 2, ground := Ground.phase }, { on := 3, ground := Ground.phase }, { on := 4, ground := Ground.phase }, { on := 5, ground := Ground.phase }, { on := 6, ground := Ground.phase }, { on := 7, ground := Ground.phase }, { on := 8, ground := Ground.phase }, { on := 9, ground := Ground.phase }, { on := 10, ground := Ground.phase }], guard := none }) (v := .pointer (some ⟨p, 0, none⟩)) rfl (by kernel_rfl) (by kernel_rfl) (by kernel_rfl) (fun _ _ _ h => h) (Or.inl ⟨by rfl, fun w hSw => by clear hSw; go_simp⟩) (by assumption) ?_
      simp only [Act.put, List.setIfInBounds_toArray, List.set_cons_zero, List.set_cons_succ]
      refine wpAnyH_ready (rs := [12]) (by kernel_rfl) (by simp) ?_
      refine AllReadyH.cons (o := { dst := none, op := Op.store 129 (Operand.tmp 51) (Operand.tmp 50), type := 0, pos := "disk.go:157", after := #[{ on := 11, ground := Ground.data }, { on := 10, ground := Ground.data }, { on := 9, ground := Ground.chain }, { on := 0, ground := Ground.phase }, { on := 1, ground := Ground.phase }, { on := 2, ground := Ground.phase }, { on := 3, ground := Ground.phase }, { on := 4, ground := Ground.phase }, { on := 5, ground := Ground.phase }, { on := 6, ground := Ground.phase }, { on := 7, ground := Ground.phase }, { on := 8, ground := Ground.phase }, { on := 9, ground := Ground.phase }, { on := 10, ground := Ground.phase }], guard := none }) rfl (fun K hK => ?_) AllReadyH.nil
      rw [if_pos (by rfl)]
      refine wp_store_row 129 (.tmp 51) (.tmp 50) rfl p #[.slice a9 s.length cs9, .slice b3 s.length k3, .slice none 0 0, .bool false, .bool false, .bool false] rfl rfl 129 _ hp3 info129_size rfl (by simp [Value.oneCell']) ?_
      have m4 : Mod (fun k => k = p) w3 (w3.setRow p #[.slice a9 s.length cs9, .slice b3 s.length k3, .slice none 0 0, .bool false, .bool false, .bool false]) := Mod.setRow _ _ _ rfl
      have hp4 := setRow_heap w3 p _ #[.slice a9 s.length cs9, .slice b3 s.length k3, .slice none 0 0, .bool false, .bool false, .bool false] 129 _ hp3
      generalize w3.setRow p #[.slice a9 s.length cs9, .slice b3 s.length k3, .slice none 0 0, .bool false, .bool false, .bool false] = w4 at *
      simp only [Act.put]
      refine hK.out _ _ ?_ (fun hHeld => ?_)
      · show w4.cell? ⟨p, 0, none⟩ = _
        rw [cell_of_row _ p 0 _ 129 (0, 0) hp4]; rfl
      clear hK K
      refine wpAnyH_done (by kernel_rfl) ?_ _
      go_wp2
      go_ret
      rw [← es2] at hp4
      have mw3 : Mod (fun k => k = gs) w w3 := hmr.trans ((Mod.drew (fun _ => False) wr).trans' m3) (fun _ _ e => e.elim)
      have mw4 : Mod (foot p vs vn vl) w w4 := (mw3.mono (fun _ _ e => .inr (.inl (by rw [hgs', e])))).trans m4 (fun _ _ e => .inl e)
      have hsz : w.heap.size ≤ wr.heap.size := hmr.size
      have n3' : ∀ k, (Value.slice b3 s.length k3).ownBlock = some k → w.heap.size ≤ k := fun k hk => by have := n3 k hk; simp at this; omega
      refine ⟨rfl, mw4, _, ⟨vs, .slice b3 s.length k3, .slice none 0 0, ⟨hwf, ?_, h.hp, ?_, ?_, OwnC.nil _ _, ?_⟩, rfl⟩, ?_⟩
      · exact hp4
      · rw [hDs]
        refine ((hos.mod ((Mod.drew (fun _ => False) wr).trans' m3) (fun _ _ => id))).mod m4 (fun k hk e => h.ne_sl.1 (by rw [hk, e]))
      · rw [hDn]
        refine o3'.mod m4 (fun k hk e => ?_)
        have := n3' k hk
        have := (h.lt p foot_p).2
        omega
      · rw [hgs']
        intro e
        have := n3' gs e.symm
        have := (h.lt gs (.inr (.inl (by rw [hgs'])))).2
        omega
      · rintro k (e | e | e | e)
        · exact .inl (.inl e)
        · exact .inl (.inr (.inl e))
        · exact .inr (n3' k e.symm)
        · simp [Value.ownBlock] at e
end Go.Proofs.Ytdinnkacilgmmaa
