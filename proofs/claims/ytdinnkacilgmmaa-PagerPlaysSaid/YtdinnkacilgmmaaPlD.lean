/- What RowPagerPlays needs, part 4. -/
import Derived.Test.YtdinnkacilgmmaaPlC
import Derived.IntWalk
namespace Go.Proofs.Ytdinnkacilgmmaa
open Go.RowKit

/-! ### appending -/
theorem info22 : (Try.prog.info? 22).map (fun i => (i.zero, i.size, i.bytes)) = some (some (.slice none 0 0), 1, 24) := by kernel_rfl
theorem info166 : (Try.prog.info? 166).map (fun i => (i.zero, i.size, i.bytes)) = some (some (.agg #[.int .i64 0, .slice none 0 0]), 2, 32) := by kernel_rfl

theorem appR_step {w : World} {ops : Array Oper} {o : Oper} {a : Act} {K : Act → World → Prop} {Q : Exit → Act → World → Prop} {E : Prop} (T e : TypeId) (z : Value) (size bytes : Nat) (hT : Try.prog.underlying T = some (.slice e))
    (hinfo : (Try.prog.info? e).map (fun i => (i.zero, i.size, i.bytes)) = some (some z, size, bytes)) (hz : z.cells.size = size) (hb0 : bytes ≤ 1000) (hb1 : 0 < size)
    (hgd : o.guard = none) (s x : Operand) (ho : o.op = .call { callee := .builtin .append, args := #[s, x], argTypes := #[T, T] })
    (B : Nat) (v : Value) (n : Nat) (xs : List Value) (hs : a.eval s = v) (hown : w.ownsRow B e size v n xs)
    (ad : Addr) (m c : Nat) (news : List Value) (hx : a.eval x = .slice (some ad) m c) (hm : news.length = m * size)
    (hc : ∀ (j : Nat) u, news[j]? = some u → w.cell? (ad.add j) = some u) (h1 : ∀ u ∈ news, u.oneCell' = true)
    (h47 : n + m ≤ 1048576) (hB : B ≤ w.heap.size)
    (h : ∀ v' w', w'.ownsRow B e size v' (n + m) (xs ++ news) → Mod (fun k => some k = v.ownBlock) w w' → (v'.ownBlock = v.ownBlock ∨ v'.ownBlock = some w.heap.size) → K (a.put o.dst v') w') :
    if Region.wanted o (yielded ops a.tmps) = true then Oper.wp Try.prog o a w K Q else E := by
  rw [if_pos (by simp [Region.wanted, hgd])]
  obtain ⟨i, hi, hz1, hs1, hb⟩ := info_parts hinfo
  have hnb : (n + m) * bytes ≤ 1048576 * 1000 := Nat.mul_le_mul h47 hb0
  obtain ⟨v', w', hrun, k1, k2, -, k4⟩ := run_append_own_at (P := Try.prog) w B T o.type e i z size bytes hT hi hz1 hs1 hb hz hb1 v n xs hown ad m c news hm hc h1 (by unfold maxLen; omega) (by omega) hB
  unfold Oper.wp execOp
  simp only [ho, resolve, invoke, builtin, Sem.run_bind, Sem.run_pure, Result.andThen_ok, List.map_toArray, List.map_cons, List.map_nil, hs, hx, hrun]
  exact h v' w' k1 (Mod.grown k2) k4

theorem cells_new (w : World) (cs : List Value) (t : TypeId) : ∀ (j : Nat) u, cs[j]? = some u → (w.alloc (.cells cs.toArray t)).cell? ((⟨w.heap.size, 0, none⟩ : Addr).add j) = some u := by
  intro j u hu
  have hadd : (⟨w.heap.size, 0, none⟩ : Addr).add j = ⟨w.heap.size, j, none⟩ := by unfold Addr.add; split <;> simp_all
  rw [hadd, cell_of_row _ w.heap.size j _ t (0, 0) (heap_alloc_new w _)]
  simpa using hu

theorem owns_mod {F : Nat → Prop} {w w' : World} {B e size n : Nat} {v : Value} {xs : List Value} (h : w.ownsRow B e size v n xs) (hm : Mod F w w') (hF : ∀ k, v.ownBlock = some k → ¬ F k) : w'.ownsRow B e size v n xs := by
  refine ⟨h.1, ?_⟩
  rcases h.2 with hn | ⟨g, cap, cur, rfl, hb, hgg, rest⟩
  · exact .inl hn
  · exact .inr ⟨g, cap, cur, rfl, hb, hm.obj hgg (hF g rfl), rest⟩
theorem owns_weaken {w : World} {B B' e size n : Nat} {v : Value} {xs : List Value} (h : w.ownsRow B' e size v n xs) (hB : B ≤ B') : w.ownsRow B e size v n xs := by
  refine ⟨h.1, ?_⟩
  rcases h.2 with hn | ⟨g, cap, cur, rfl, hb, rest⟩
  · exact .inl hn
  · exact .inr ⟨g, cap, cur, rfl, Nat.le_trans hB hb, rest⟩
theorem owns_shape {w : World} {B e size n : Nat} {v : Value} {xs : List Value} (h : w.ownsRow B e size v n xs) : ∃ a cap, v = .slice a n cap ∧ n ≤ cap ∧ cap ≤ maxLen ∧ (0 < n → ∃ g, a = some ⟨g, 0, none⟩ ∧ v.ownBlock = some g) := by
  rcases h.2 with ⟨rfl, rfl⟩ | ⟨g, cap, cur, rfl, h2, h3, h4, h5, -⟩
  · exact ⟨none, 0, rfl, Nat.le_refl _, by decide, fun h => absurd h (by decide)⟩
  · exact ⟨_, cap, rfl, h4, h5, fun _ => ⟨g, rfl, rfl⟩⟩

/-! ### full: bytes as a sector -/
theorem sect_set (l : List UInt8) (i : Nat) (h : i < l.length) (h2 : l.length ≤ 256) : (sect (l.take i)).set i l[i] = sect (l.take (i + 1)) := by
  apply List.ext_getElem?
  intro j
  rw [List.getElem?_set]
  unfold sect
  simp only [List.length_take, List.getElem?_append, List.length_append, List.length_replicate]
  by_cases e : i = j
  · subst e
    rw [if_pos rfl, if_pos (by omega), if_pos (by omega), List.getElem?_take, if_pos (by omega), List.getElem?_eq_getElem h]
  · rw [if_neg e]
    by_cases h3 : j < i
    · rw [if_pos (by omega), if_pos (by omega), List.getElem?_take, List.getElem?_take, if_pos h3, if_pos (by omega)]
    · rw [if_neg (by omega), if_neg (by omega), List.getElem?_replicate, List.getElem?_replicate]
      by_cases h4 : j < 256
      · rw [if_pos (by omega), if_pos (by omega)]
      · rw [if_neg (by omega), if_neg (by omega)]

set_option maxRecDepth 100000 in
theorem rfull_any (a : Option Addr) (l : List UInt8) (cap : Nat) (w : World) (C : Nat) (hC : C ≤ w.heap.size) (hb : BytesAt w a l) (hl : l.length ≤ 256) :
    Calls Try.prog 89 #[.slice a l.length cap] w fun e w' => ∃ v, e = .returned v ∧ OwnB w' C v (sect l) ∧ Mod (fun _ => False) w w' ∧ (∀ k, v.ownBlock = some k → w.heap.size ≤ k) := by
  have km : ∀ w : World, (Instr.makeSlice 22 (.int .i64 256) (.int .i64 256)).run Try.prog w = .ok (.slice (some ⟨w.heap.size, 0, none⟩) 256 256) (w.alloc (.cells (zerosV 256) 5)) := fun w => run_make_bytes w 256 (by decide)
  have o0 : OwnB (w.alloc (.cells (zerosV 256) 5)) w.heap.size (.slice (some ⟨w.heap.size, 0, none⟩) 256 256) (sect (l.take 0)) := by
    have := OwnB.made w w.heap.size (List.replicate 256 0) (zerosV 256) rfl (Nat.le_refl _) (by rw [List.length_replicate]; decide)
    rw [List.length_replicate] at this
    exact this
  have HO := Lib.hid o0
  clear o0
  go_enter Try.func89, Try.ntmps89
  go_wp2_with fail
  go_loopw [4] (fun v4 wr => ∃ i : Nat, i ≤ l.length ∧ v4 = .int .i64 (i : Int) ∧ OwnB wr w.heap.size (.slice (some ⟨w.heap.size, 0, none⟩) 256 256) (sect (l.take i)) ∧ Mod (fun k => k = w.heap.size) w wr) (fun v4 _ => l.length - (intOf v4).toNat)
  case atStart => exact ⟨0, Nat.zero_le _, rfl, HO.out, Mod.alloc _ _ _⟩
  case round =>
    obtain ⟨i, hi, rfl, ho, hm⟩ := hrel
    by_cases hlt : i < l.length
    · have hlt' : (i : Int) < (l.length : Int) := by omega
      have h256 : (i : Int) < 256 := by omega
      have hbr := hb.mod hm (fun x e hne he => by subst e; have := hb.lt hne; omega)
      obtain ⟨b, off, rfl, hcb⟩ := hbr (by intro e; rw [e] at hlt; simp at hlt)
      have xc := hcb i hlt
      have hlen : (sect (l.take i)).length = 256 := sect_length _ (by rw [List.length_take]; omega)
      obtain ⟨x0, x1⟩ := ho.cellAt i (by rw [hlen]; omega)
      have hst := ho.store i l[i]
      rw [sect_set l i hlt hl] at hst
      have HST := Lib.hid hst
      clear hst
      generalize (sect (l.take i))[i] = c0 at *
      generalize l[i] = c1 at *
      clear hbr hcb hlen
      go_wp2_with fail
      go_roundw
      case rel => exact ⟨i + 1, by omega, by go_num, HST.out, hm.trans (Mod.setCell (F := fun k => k = w.heap.size) _ _ _ rfl) (fun _ _ e => e)⟩
      case measure => simp [intOf]; omega
    · obtain rfl : i = l.length := by omega
      rw [List.take_length] at ho
      by_cases h256 : (l.length : Int) < 256
      all_goals
        go_wp2
        go_ret
        exact ⟨_, rfl, ho.weaken hC, hm.mono (fun k hk e => by omega), fun k hk => by simp [Value.ownBlock] at hk; omega⟩

theorem rfull_n (a : Option Addr) (l : List UInt8) (n cap : Nat) (hn : l.length = n) (w : World) (C : Nat) (hC : C ≤ w.heap.size) (hb : BytesAt w a l) (hl : l.length ≤ 256) :
    Calls Try.prog 89 #[.slice a n cap] w fun e w' => ∃ v, e = .returned v ∧ OwnB w' C v (sect l) ∧ Mod (fun _ => False) w w' ∧ (∀ k, v.ownBlock = some k → w.heap.size ≤ k) := by
  subst hn; exact rfull_any a l cap w C hC hb hl

/-! ### the disk -/
def lcells (l : List (Nat × List UInt8)) (ys : List Value) : List Value := (List.zipWith (fun x y => [Value.int .i64 (x.1 : Int), y]) l ys).flatten

structure RV (w : World) (B p : Nat) (vs vl : Value) (xs ys : List Value) (D : Dsk) : Prop where
  wf : D.wf
  at_ : w.heap[p]? = some (.cells #[vs, vl, .bool D.bad, .bool D.full, .bool D.gone] 69 (0, 0))
  hp : B ≤ p
  safe : w.ownsRow B 22 1 vs xs.length xs
  hx : xs.length = D.N
  ex : ∀ i (h : i < xs.length), OwnB w B xs[i] (sector D.safe i)
  l : w.ownsRow B 166 2 vl D.l.length (lcells D.l ys)
  hy : ys.length = D.l.length
  ey : ∀ i (h : i < ys.length) (h2 : i < D.l.length), OwnB w B ys[i] D.l[i].2

def rfoot (p : Nat) (vs vl : Value) (xs ys : List Value) (k : Nat) : Prop := k = p ∨ vs.ownBlock = some k ∨ vl.ownBlock = some k ∨ (∃ x ∈ xs, x.ownBlock = some k) ∨ (∃ y ∈ ys, y.ownBlock = some k)

section
variable {w w' : World} {B p : Nat} {vs vl : Value} {xs ys : List Value} {D : Dsk}
theorem RV.mod {F : Nat → Prop} (h : RV w B p vs vl xs ys D) (hm : Mod F w w') (hF : ∀ k, rfoot p vs vl xs ys k → ¬ F k) : RV w' B p vs vl xs ys D :=
  ⟨h.wf, hm.obj h.at_ (hF p (.inl rfl)), h.hp, owns_mod h.safe hm (fun k hk => hF k (.inr (.inl hk))), h.hx, fun i hi => (h.ex i hi).mod hm (fun k hk => hF k (.inr (.inr (.inr (.inl ⟨_, List.getElem_mem hi, hk⟩))))),
    owns_mod h.l hm (fun k hk => hF k (.inr (.inr (.inl hk)))), h.hy, fun i hi h2 => (h.ey i hi h2).mod hm (fun k hk => hF k (.inr (.inr (.inr (.inr ⟨_, List.getElem_mem hi, hk⟩)))))⟩
theorem RV.lt (h : RV w B p vs vl xs ys D) : ∀ k, rfoot p vs vl xs ys k → B ≤ k ∧ k < w.heap.size := by
  rintro k (rfl | hk | hk | ⟨x, hx, hk⟩ | ⟨y, hy, hk⟩)
  · exact ⟨h.hp, lt_of_block h.at_⟩
  · exact World.ownsRow.lt h.safe k hk
  · exact World.ownsRow.lt h.l k hk
  · obtain ⟨i, hi, rfl⟩ := List.getElem_of_mem hx
    exact World.ownsRow.lt (h.ex i hi) k hk
  · obtain ⟨i, hi, rfl⟩ := List.getElem_of_mem hy
    exact World.ownsRow.lt (h.ey i hi (by have := h.hy; omega)) k hk

def RDiskAt (w : World) (B p : Nat) (D : Dsk) (F : Nat → Prop) : Prop := ∃ vs vl xs ys, RV w B p vs vl xs ys D ∧ F = rfoot p vs vl xs ys
def RDiskT (B p : Nat) (D : Dsk) : Thg B :=
  ⟨fun w F => RDiskAt w B p D F, fun h => by obtain ⟨vs, vl, xs, ys, h, rfl⟩ := h; exact h.lt, fun h hm hF => by obtain ⟨vs, vl, xs, ys, h, rfl⟩ := h; exact ⟨vs, vl, xs, ys, h.mod hm hF, rfl⟩⟩

theorem RV.cell (h : RV w B p vs vl xs ys D) : w.cell? ⟨p, 0, none⟩ = some vs ∧ w.cell? ⟨p, 1, none⟩ = some vl ∧ w.cell? ⟨p, 2, none⟩ = some (.bool D.bad) ∧ w.cell? ⟨p, 3, none⟩ = some (.bool D.full) ∧ w.cell? ⟨p, 4, none⟩ = some (.bool D.gone) := by
  have hc := fun j => cell_of_row w p j _ 69 (0, 0) h.at_
  exact ⟨hc 0, hc 1, hc 2, hc 3, hc 4⟩

/-- blocks of other kinds are other blocks -/
theorem RV.ne (h : RV w B p vs vl xs ys D) : vs.ownBlock ≠ some p ∧ vl.ownBlock ≠ some p ∧ (∀ k, vl.ownBlock = some k → vs.ownBlock ≠ some k) ∧ (∀ i (hi : i < xs.length) k, xs[i].ownBlock = some k → k ≠ p ∧ vs.ownBlock ≠ some k ∧ vl.ownBlock ≠ some k) ∧
    (∀ i (hi : i < ys.length) k, ys[i].ownBlock = some k → k ≠ p ∧ vs.ownBlock ≠ some k ∧ vl.ownBlock ≠ some k) := by
  refine ⟨own_ne h.safe h.at_ (by decide), own_ne h.l h.at_ (by decide), fun k hk => ?_, fun i hi k hk => ?_, fun i hi k hk => ?_⟩
  · obtain ⟨c, hc⟩ := own_type h.l hk
    exact own_ne h.safe hc (by decide)
  · obtain ⟨c, hc⟩ := own_type (h.ex i hi) hk
    refine ⟨fun e => ?_, own_ne h.safe hc (by decide), own_ne h.l hc (by decide)⟩
    subst e
    rw [h.at_] at hc
    injection hc with hc
    injection hc with _ h2
    cases h2
  · obtain ⟨c, hc⟩ := own_type (h.ey i hi (by have := h.hy; omega)) hk
    refine ⟨fun e => ?_, own_ne h.safe hc (by decide), own_ne h.l hc (by decide)⟩
    subst e
    rw [h.at_] at hc
    injection hc with hc
    injection hc with _ h2
    cases h2

theorem lcells_get (l : List (Nat × List UInt8)) (ys : List Value) (h : ys.length = l.length) (i : Nat) (hi : i < l.length) :
    (lcells l ys)[i * 2]? = some (.int .i64 (l[i].1 : Int)) ∧ (lcells l ys)[i * 2 + 1]? = ys[i]? := by
  induction l generalizing ys i with
  | nil => simp at hi
  | cons x r ih =>
    cases ys with
    | nil => simp at h
    | cons y t =>
      cases i with
      | zero => simp [lcells]
      | succ i =>
        have := ih t (by simpa using h) i (by simpa using hi)
        simp only [lcells, List.zipWith_cons_cons, List.flatten_cons, List.getElem_cons_succ, List.getElem?_cons_succ]
        rw [List.getElem?_append_right (by simp; omega), List.getElem?_append_right (by simp; omega)]
        simp only [List.length_cons, List.length_nil]
        rw [show (i + 1) * 2 - (0 + 1 + 1) = i * 2 by omega, show (i + 1) * 2 + 1 - (0 + 1 + 1) = i * 2 + 1 by omega]
        exact this
theorem lcells_snoc (l : List (Nat × List UInt8)) (ys : List Value) (h : ys.length = l.length) (x : Nat × List UInt8) (y : Value) : lcells (l ++ [x]) (ys ++ [y]) = lcells l ys ++ [.int .i64 (x.1 : Int), y] := by
  unfold lcells
  rw [List.zipWith_append h.symm]
  simp

/-- the cells of the disk's rows -/
theorem RV.rows (h : RV w B p vs vl xs ys D) : (∀ g, vs.ownBlock = some g → ∀ i (hi : i < xs.length), w.cell? ⟨g, i, none⟩ = some xs[i] ∧ w.frozen? ⟨g, i, none⟩ = false) ∧
    (∀ g, vl.ownBlock = some g → ∀ i (hi : i < D.l.length) (hi2 : i < ys.length), w.cell? ⟨g, i * 2, none⟩ = some (.int .i64 (D.l[i].1 : Int)) ∧ w.cell? ⟨g, i * 2 + 1, none⟩ = some ys[i]) := by
  constructor
  · intro g hg i hi
    have hc := World.ownsRow.cells h.safe (g := g) hg i xs[i] (List.getElem?_eq_getElem hi)
    rw [Addr.add_mid, Nat.zero_add] at hc
    refine ⟨hc, ?_⟩
    obtain ⟨c, hcc⟩ := own_type h.safe hg
    simp [World.frozen?, hcc]
  · intro g hg i hi hi2
    obtain ⟨l0, l1⟩ := lcells_get D.l ys h.hy i hi
    have hc := World.ownsRow.cells h.l (g := g) hg (i * 2) _ l0
    have hc1 := World.ownsRow.cells h.l (g := g) hg (i * 2 + 1) ys[i] (by rw [l1]; exact List.getElem?_eq_getElem hi2)
    rw [Addr.add_mid, Nat.zero_add] at hc hc1
    exact ⟨hc, hc1⟩
end
end Go.Proofs.Ytdinnkacilgmmaa
namespace Go.Proofs.Ytdinnkacilgmmaa
open Go.RowKit

theorem OwnB.to {w : World} {B : Nat} {v : Value} {l l' : List UInt8} (h : OwnB w B v l) (e : l = l') : OwnB w B v l' := e ▸ h
theorem sect_full (b : List UInt8) (h : b.length = 256) : sect b = b := by unfold sect; rw [h]; simp

/-- a disk of the reference that is being made -/
structure RB (w0 w : World) (H p : Nat) (vs : Value) (xs : List Value) (f : Nat → List UInt8) : Prop where
  at_ : w.heap[p]? = some (.cells #[vs, .slice none 0 0, .bool false, .bool false, .bool false] 69 (0, 0))
  safe : w.ownsRow H 22 1 vs xs.length xs
  ex : ∀ i (h : i < xs.length), OwnB w H xs[i] (f i)
  mod : Mod (fun _ => False) w0 w

theorem RB.push {w0 wr wa w3 : World} {H p : Nat} {vs v v' : Value} {xs : List Value} {f : Nat → List UInt8} (h : RB w0 wr H p vs xs f) (hH : w0.heap.size ≤ H) (hp : w0.heap.size ≤ p) (ma : Mod (fun _ => False) wr wa) (hv : OwnB wa H v (f xs.length))
    {o : Obj} (k1 : w3.ownsRow H 22 1 v' (xs.length + 1) (xs ++ [v])) (k2 : Mod (fun k => some k = vs.ownBlock) (wa.alloc o) w3) : RB w0 (w3.setCell ⟨p, 0, none⟩ v') H p v' (xs ++ [v]) f := by
  have m1 : Mod (fun _ => False) wr (wa.alloc o) := ma.trans' (Mod.alloc _ _ _)
  have hpv : vs.ownBlock ≠ some p := own_ne h.safe h.at_ (by decide)
  have a3 := k2.obj (m1.obj h.at_ id) (fun e => hpv e.symm)
  have a4 := setCell_block (i := 0) a3 v'
  have m3 : Mod (fun k => k = p) w3 (w3.setCell ⟨p, 0, none⟩ v') := Mod.setCell _ _ _ rfl
  have keep : ∀ {u : Value} {l : List UInt8}, OwnB (wa.alloc o) H u l → OwnB (w3.setCell ⟨p, 0, none⟩ v') H u l := fun {u l} hu => by
    have hty : ∀ k, u.ownBlock = some k → some k ≠ vs.ownBlock := fun k hk e => by
      obtain ⟨c, hc⟩ := own_type hu hk
      exact own_ne (owns_mod h.safe m1 (fun _ _ => id)) hc (by decide) e.symm
    have h3 := hu.mod k2 hty
    refine h3.mod m3 (fun k hk e => ?_)
    subst e
    exact own_ne h3 a3 (by decide) hk
  refine ⟨by simpa using a4, ?_, fun i hi => ?_, ?_⟩
  · rw [List.length_append]
    exact owns_mod k1 m3 (fun k hk e => by subst e; exact own_ne k1 a3 (by decide) hk)
  · by_cases e : i < xs.length
    · rw [List.getElem_append_left e]
      exact keep ((h.ex i e).mod m1 (fun _ _ => id))
    · have : i = xs.length := by simp at hi; omega
      subst this
      rw [List.getElem_append_right (Nat.le_refl _)]
      simpa using keep (hv.mod (Mod.alloc (fun _ => False) _ _) (fun _ _ => id))
  · refine ((h.mod.trans m1 (fun _ _ e => e)).trans k2 (fun i hi e => ?_)).trans m3 (fun i hi e => ?_)
    · have := (World.ownsRow.lt h.safe i e.symm).1; omega
    · omega

theorem RB.start {w0 : World} {H : Nat} (f : Nat → List UInt8) : RB w0 (w0.alloc (.cells #[.slice none 0 0, .slice none 0 0, .bool false, .bool false, .bool false] 69)) H w0.heap.size (.slice none 0 0) [] f :=
  ⟨heap_alloc_new w0 _, World.ownsRow_nil _ _ _ _, fun i h => by simp at h, Mod.alloc _ _ _⟩

def RBorn (w : World) (B : Nat) (v : Value) (D : Dsk) (w' : World) : Prop := ∃ p F, v = .pointer (some ⟨p, 0, none⟩) ∧ RDiskAt w' B p D F ∧ Mod (fun _ => False) w w' ∧ ∀ k, F k → w.heap.size ≤ k

theorem RB.born {w0 w : World} {B : Nat} {vs : Value} {xs : List Value} {l : List UInt8} {f : Nat → List UInt8} (hB : B ≤ w0.heap.size) (h : RB w0 w w0.heap.size w0.heap.size vs xs f) (hi : imageOk l.length) (hx : xs.length = l.length / 256) (hf : ∀ i, i < xs.length → f i = sector l i) :
    RBorn w0 B (.pointer (some ⟨w0.heap.size, 0, none⟩)) (Dsk.of l) w := by
  refine ⟨w0.heap.size, _, rfl, ⟨vs, .slice none 0 0, xs, [], ⟨Dsk.of_wf l hi, h.at_, hB, owns_weaken h.safe hB, hx, fun i hi => ?_, World.ownsRow_nil _ _ _ _, rfl, fun i h => by simp at h⟩, rfl⟩, h.mod, ?_⟩
  · rw [show sector (Dsk.of l).safe i = f i from (hf i hi).symm]
    exact (h.ex i hi).weaken hB
  · rintro k (e | e | e | ⟨x, hx, e⟩ | ⟨y, hy, e⟩)
    · omega
    · exact (World.ownsRow.lt h.safe k e).1
    · simp [Value.ownBlock] at e
    · obtain ⟨i, hi, rfl⟩ := List.getElem_of_mem hx
      exact (World.ownsRow.lt (h.ex i hi) k e).1
    · cases hy

theorem slices_oneCell (a : Option Addr) (n c : Nat) : ∀ u ∈ [Value.slice a n c], u.oneCell' = true := by
  intro u hu
  rw [List.mem_singleton.1 hu]
  rfl

theorem zeros_sector (n i : Nat) (h : i < n) : sector (List.replicate (n * 256) 0) i = sect [] := by
  unfold sector sect
  rw [List.drop_replicate, List.take_replicate, List.length_nil, List.nil_append, Nat.min_eq_left (by rw [← Nat.sub_mul]; have : 1 ≤ n - i := by omega
                                                                                                      omega)]

set_option maxHeartbeats 1000000 in
set_option maxRecDepth 100000 in
theorem rnew_ok {w : World} {B : Nat} (hB : B ≤ w.heap.size) (n : Nat) (h1 : 1 ≤ n) (h2 : n ≤ 4096) :
    Calls Try.prog 45 #[.int .i64 (n : Int)] w fun e w' => ∃ v, e = .returned (.tuple #[v, .int .i64 0]) ∧ RBorn w B v (Dsk.of (List.replicate (n * 256) 0)) w' := by
  have hi : imageOk (List.replicate (n * 256) (0 : UInt8)).length := by rw [List.length_replicate]; unfold imageOk; omega
  have hlo : (1 : Int) ≤ (n : Int) := by omega
  have hhi : (n : Int) ≤ 4096 := by omega
  have hr0 := RB.start (w0 := w) (H := w.heap.size) (fun _ => sect [])
  have HR0 := Lib.hid hr0
  clear hr0
  go_enter Try.func45, Try.ntmps45
  go_wp2_with fail
  go_loopw [5] (fun v5 wr => ∃ (i : Nat) (vs : Value) (xs : List Value), i ≤ n ∧ v5 = .int .i64 (i : Int) ∧ xs.length = i ∧ RB w wr w.heap.size w.heap.size vs xs (fun _ => sect [])) (fun v5 _ => n - (intOf v5).toNat)
  case atStart => exact ⟨0, _, [], Nat.zero_le _, rfl, rfl, HR0.out⟩
  case round =>
    obtain ⟨i, vs, xs, hin, rfl, hxl, hR⟩ := hrel
    clear HR0
    by_cases hlt : i < n
    · have hlt' : (i : Int) < (n : Int) := by omega
      go_upto_region 7 with fail
      have md : Mod (fun _ => False) wr wr.drew := Mod.drew _ _
      obtain ⟨asv, csv, evs, -, -, -⟩ := owns_shape hR.safe
      subst evs
      have hcell := cell_of_row wr w.heap.size 0 _ 69 (0, 0) hR.at_
      have hat := hR.at_
      have hnp : (Value.slice asv xs.length csv).ownBlock ≠ some w.heap.size := own_ne hR.safe hat (by decide)
      have c0 : wr.drew.cell? ⟨w.heap.size, 0, none⟩ = some (.slice asv xs.length csv) := by simpa using hcell
      have hsz := hR.mod.size
      have HX := Lib.hid hxl
      have HR := Lib.hid hR
      have HAT := Lib.hid hat
      have HNP := Lib.hid hnp
      clear hcell hat hnp hR hxl
      refine wp_region_held_drew (S := fun _ => True) (by kernel_rfl) (trivial) (fun hHeld => ?_)
      refine wpAnyH_take (i := 0) (oi := ⟨some 19, .move (.tmp 4), 60, "ref.go:40", #[], none⟩) (v := ?_) rfl (by kernel_rfl) (by kernel_rfl) (by kernel_rfl) (fun _ _ _ h => h) (Or.inl ⟨by rfl, ?_⟩) (by assumption) ?_
      rotate_left
      · (intro w hSw; (try dsimp only at hSw); go_simp; try with_reducible rfl)
      simp only [Act.put, List.setIfInBounds_toArray, List.set_cons_zero, List.set_cons_succ]
      refine wpAnyH_take (i := 1) (oi := ⟨some 20, .move (.tmp 4), 60, "ref.go:40", #[], none⟩) (v := ?_) rfl (by kernel_rfl) (by kernel_rfl) (by kernel_rfl) (fun _ _ _ h => h) (Or.inl ⟨by rfl, ?_⟩) (by assumption) ?_
      rotate_left
      · (intro w hSw; (try dsimp only at hSw); go_simp; try with_reducible rfl)
      simp only [Act.put, List.setIfInBounds_toArray, List.set_cons_zero, List.set_cons_succ]
      refine wpAnyH_take (i := 2) (oi := ⟨some 21, .nilCheck (.tmp 20), 0, "ref.go:40", #[⟨1, .data⟩], none⟩) (v := ?_) rfl (by kernel_rfl) (by kernel_rfl) (by kernel_rfl) (fun _ _ _ h => h) (Or.inl ⟨by rfl, ?_⟩) (by assumption) ?_
      rotate_left
      · (intro w hSw; (try dsimp only at hSw); go_simp; try with_reducible rfl)
      simp only [Act.put, List.setIfInBounds_toArray, List.set_cons_zero, List.set_cons_succ]
      refine wpAnyH_take (i := 3) (oi := ⟨some 22, .fieldAddr 69 (.tmp 21) 0, 0, "ref.go:40", #[⟨2, .data⟩], none⟩) (v := ?_) rfl (by kernel_rfl) (by kernel_rfl) (by kernel_rfl) (fun _ _ _ h => h) (Or.inl ⟨by rfl, ?_⟩) (by assumption) ?_
      rotate_left
      · (intro w hSw; (try dsimp only at hSw); go_simp; try with_reducible rfl)
      simp only [Act.put, List.setIfInBounds_toArray, List.set_cons_zero, List.set_cons_succ]
      refine wpAnyH_ready (rs := [4, 5]) (by kernel_rfl) (by simp) ?_
      refine AllReadyH.cons (o := ⟨some 23, .load 66 (.tmp 22), 66, "ref.go:40", #[⟨3, .data⟩], none⟩) rfl (fun K hK => ?_) (AllReadyH.cons (o := ⟨some 24, .call { callee := .value (.func 89), args := #[.const (.slice none 0 0)], argTypes := #[22] }, 22, "ref.go:40", #[], none⟩) rfl (fun K hK => ?_) AllReadyH.nil)
      ·
        go_simp
        try simp only []
        refine hK.out _ _ trivial (fun hHeld => ?_)
        clear hK K
        try simp only [Act.put, List.setIfInBounds_toArray, List.set_cons_zero, List.set_cons_succ]
        refine wpAnyH_ready (rs := [5]) (by kernel_rfl) (by simp) ?_
        refine AllReadyH.cons (o := ⟨some 24, .call { callee := .value (.func 89), args := #[.const (.slice none 0 0)], argTypes := #[22] }, 22, "ref.go:40", #[], none⟩) rfl (fun K hK => ?_) AllReadyH.nil
        go_simp
        refine (rfull_n none [] 0 0 rfl _ w.heap.size (by simp; omega) (BytesAt.nil _ _) (by decide)).mono ?_
        rintro e wa ⟨v, rfl, hv, hmv, -⟩
        have hca : wa.cell? ⟨w.heap.size, 0, none⟩ = some (.slice asv xs.length csv) := hmv.cell' c0 id
        have hcb : ∀ X, (wa.alloc X).cell? ⟨w.heap.size, 0, none⟩ = some (.slice asv xs.length csv) := fun X => (Mod.alloc (fun _ => False) wa X).cell' hca id
        obtain ⟨av, cv, ev, -, -, -⟩ := hv.shape
        subst ev
        try simp only []
        refine hK.out _ _ (trivial) (fun _ => ?_)
        clear hK K
        try simp only [Act.put, List.setIfInBounds_toArray, List.set_cons_zero, List.set_cons_succ]
        refine wpAnyH_ready (rs := [6]) (by kernel_rfl) (by simp) ?_
        refine AllReadyH.cons (o := ⟨some 25, .buildSlice 66 1 #[(0, .tmp 24)], 66, "ref.go:40", #[⟨5, .data⟩], none⟩) rfl (fun K hK => ?_) AllReadyH.nil
        go_simp
        try simp only []
        refine hK.out _ _ trivial (fun hHeld => ?_)
        clear hK K
        try simp only [Act.put, List.setIfInBounds_toArray, List.set_cons_zero, List.set_cons_succ]
        refine wpAnyH_ready (rs := [7]) (by kernel_rfl) (by simp) ?_
        refine AllReadyH.cons (o := ⟨some 26, .call { callee := .builtin .append, args := #[.tmp 23, .tmp 25], argTypes := #[66, 66] }, 66, "ref.go:40", #[⟨4, .data⟩, ⟨6, .data⟩, ⟨5, .chain⟩], none⟩) rfl (fun K hK => ?_) AllReadyH.nil
        clear hcb hca
        refine appR_step 66 22 _ 1 24 Try.underlying66 info22 rfl (by decide) (by decide) rfl _ _ rfl w.heap.size (.slice asv xs.length csv) xs.length xs rfl (owns_mod HR.out.safe (md.trans' (hmv.trans' (Mod.alloc _ _ _))) (fun _ _ => id)) ⟨wa.heap.size, 0, none⟩ 1 1 _ rfl rfl (cells_new wa _ 22) (slices_oneCell _ _ _) (by rw [HX.out]; omega) (by have := hmv.size; simp at this ⊢; omega) ?_
        intro v' w3 k1 k2 _
        obtain ⟨a3, c3, e3, -, -, -⟩ := owns_shape k1
        subst e3
        have hat3 := k2.obj ((md.trans' (hmv.trans' (Mod.alloc _ _ _))).obj HAT.out id) (fun e => HNP.out e.symm)
        have d0 := cell_of_row w3 w.heap.size 0 _ 69 (0, 0) hat3
        have t0 := thaw_of (i := 0) hat3
        have HK1 := Lib.hid k1
        have HK2 := Lib.hid k2
        have HV := Lib.hid hv
        clear k1 k2 hat3 hv
        simp only [Act.put, List.setIfInBounds_toArray, List.set_cons_zero, List.set_cons_succ]
        refine hK.out _ _ (trivial) (fun _ => ?_)
        clear hK K
        try simp only [Act.put, List.setIfInBounds_toArray, List.set_cons_zero, List.set_cons_succ]
        refine wpAnyH_take (i := 8) (oi := ⟨some 27, .nilCheck (.tmp 19), 0, "ref.go:40", #[⟨0, .data⟩, ⟨0, .phase⟩, ⟨1, .phase⟩, ⟨2, .phase⟩, ⟨3, .phase⟩, ⟨4, .phase⟩, ⟨5, .phase⟩, ⟨6, .phase⟩, ⟨7, .phase⟩], none⟩) (v := ?_) rfl (by kernel_rfl) (by kernel_rfl) (by kernel_rfl) (fun _ _ _ h => h) (Or.inl ⟨by rfl, ?_⟩) (by assumption) ?_
        rotate_left
        · (intro w hSw; (try dsimp only at hSw); go_simp; try with_reducible rfl)
        simp only [Act.put, List.setIfInBounds_toArray, List.set_cons_zero, List.set_cons_succ]
        refine wpAnyH_take (i := 9) (oi := ⟨some 28, .fieldAddr 69 (.tmp 27) 0, 0, "ref.go:40", #[⟨8, .data⟩, ⟨0, .phase⟩, ⟨1, .phase⟩, ⟨2, .phase⟩, ⟨3, .phase⟩, ⟨4, .phase⟩, ⟨5, .phase⟩, ⟨6, .phase⟩, ⟨7, .phase⟩], none⟩) (v := ?_) rfl (by kernel_rfl) (by kernel_rfl) (by kernel_rfl) (fun _ _ _ h => h) (Or.inl ⟨by rfl, ?_⟩) (by assumption) ?_
        rotate_left
        · (intro w hSw; (try dsimp only at hSw); go_simp; try with_reducible rfl)
        simp only [Act.put, List.setIfInBounds_toArray, List.set_cons_zero, List.set_cons_succ]
        refine wpAnyH_ready (rs := [10]) (by kernel_rfl) (by simp) ?_
        refine AllReadyH.cons (o := ⟨none, .store 66 (.tmp 28) (.tmp 26), 0, "ref.go:40", #[⟨9, .data⟩, ⟨7, .data⟩, ⟨7, .chain⟩, ⟨0, .phase⟩, ⟨1, .phase⟩, ⟨2, .phase⟩, ⟨3, .phase⟩, ⟨4, .phase⟩, ⟨5, .phase⟩, ⟨6, .phase⟩, ⟨7, .phase⟩], none⟩) rfl (fun K hK => ?_) AllReadyH.nil
        go_simp
        try simp only []
        refine hK.out _ _ trivial (fun hHeld => ?_)
        clear hK K
        try simp only [Act.put, List.setIfInBounds_toArray, List.set_cons_zero, List.set_cons_succ]
        refine wpAnyH_done (by kernel_rfl) ?_ _
        go_wp2_with fail
        go_roundw
        case rel => exact ⟨i + 1, _, xs ++ [_], by omega, by go_num, by rw [List.length_append, HX.out]; rfl, HR.out.push (Nat.le_refl _) (Nat.le_refl _) (md.trans' hmv) HV.out HK1.out HK2.out⟩
        case measure => simp [intOf]; omega
      ·
        go_simp
        refine (rfull_n none [] 0 0 rfl _ w.heap.size (by simp; omega) (BytesAt.nil _ _) (by decide)).mono ?_
        rintro e wa ⟨v, rfl, hv, hmv, -⟩
        have hca : wa.cell? ⟨w.heap.size, 0, none⟩ = some (.slice asv xs.length csv) := hmv.cell' c0 id
        have hcb : ∀ X, (wa.alloc X).cell? ⟨w.heap.size, 0, none⟩ = some (.slice asv xs.length csv) := fun X => (Mod.alloc (fun _ => False) wa X).cell' hca id
        obtain ⟨av, cv, ev, -, -, -⟩ := hv.shape
        subst ev
        try simp only []
        refine hK.out _ _ (trivial) (fun _ => ?_)
        clear hK K
        try simp only [Act.put, List.setIfInBounds_toArray, List.set_cons_zero, List.set_cons_succ]
        refine wpAnyH_ready (rs := [4, 6]) (by kernel_rfl) (by simp) ?_
        refine AllReadyH.cons (o := ⟨some 23, .load 66 (.tmp 22), 66, "ref.go:40", #[⟨3, .data⟩], none⟩) rfl (fun K hK => ?_) (AllReadyH.cons (o := ⟨some 25, .buildSlice 66 1 #[(0, .tmp 24)], 66, "ref.go:40", #[⟨5, .data⟩], none⟩) rfl (fun K hK => ?_) AllReadyH.nil)
        ·
          go_simp
          try simp only []
          refine hK.out _ _ trivial (fun hHeld => ?_)
          clear hK K
          try simp only [Act.put, List.setIfInBounds_toArray, List.set_cons_zero, List.set_cons_succ]
          refine wpAnyH_ready (rs := [6]) (by kernel_rfl) (by simp) ?_
          refine AllReadyH.cons (o := ⟨some 25, .buildSlice 66 1 #[(0, .tmp 24)], 66, "ref.go:40", #[⟨5, .data⟩], none⟩) rfl (fun K hK => ?_) AllReadyH.nil
          go_simp
          try simp only []
          refine hK.out _ _ trivial (fun hHeld => ?_)
          clear hK K
          try simp only [Act.put, List.setIfInBounds_toArray, List.set_cons_zero, List.set_cons_succ]
          refine wpAnyH_ready (rs := [7]) (by kernel_rfl) (by simp) ?_
          refine AllReadyH.cons (o := ⟨some 26, .call { callee := .builtin .append, args := #[.tmp 23, .tmp 25], argTypes := #[66, 66] }, 66, "ref.go:40", #[⟨4, .data⟩, ⟨6, .data⟩, ⟨5, .chain⟩], none⟩) rfl (fun K hK => ?_) AllReadyH.nil
          clear hcb hca
          refine appR_step 66 22 _ 1 24 Try.underlying66 info22 rfl (by decide) (by decide) rfl _ _ rfl w.heap.size (.slice asv xs.length csv) xs.length xs rfl (owns_mod HR.out.safe (md.trans' (hmv.trans' (Mod.alloc _ _ _))) (fun _ _ => id)) ⟨wa.heap.size, 0, none⟩ 1 1 _ rfl rfl (cells_new wa _ 22) (slices_oneCell _ _ _) (by rw [HX.out]; omega) (by have := hmv.size; simp at this ⊢; omega) ?_
          intro v' w3 k1 k2 _
          obtain ⟨a3, c3, e3, -, -, -⟩ := owns_shape k1
          subst e3
          have hat3 := k2.obj ((md.trans' (hmv.trans' (Mod.alloc _ _ _))).obj HAT.out id) (fun e => HNP.out e.symm)
          have d0 := cell_of_row w3 w.heap.size 0 _ 69 (0, 0) hat3
          have t0 := thaw_of (i := 0) hat3
          have HK1 := Lib.hid k1
          have HK2 := Lib.hid k2
          have HV := Lib.hid hv
          clear k1 k2 hat3 hv
          simp only [Act.put, List.setIfInBounds_toArray, List.set_cons_zero, List.set_cons_succ]
          refine hK.out _ _ (trivial) (fun _ => ?_)
          clear hK K
          try simp only [Act.put, List.setIfInBounds_toArray, List.set_cons_zero, List.set_cons_succ]
          refine wpAnyH_take (i := 8) (oi := ⟨some 27, .nilCheck (.tmp 19), 0, "ref.go:40", #[⟨0, .data⟩, ⟨0, .phase⟩, ⟨1, .phase⟩, ⟨2, .phase⟩, ⟨3, .phase⟩, ⟨4, .phase⟩, ⟨5, .phase⟩, ⟨6, .phase⟩, ⟨7, .phase⟩], none⟩) (v := ?_) rfl (by kernel_rfl) (by kernel_rfl) (by kernel_rfl) (fun _ _ _ h => h) (Or.inl ⟨by rfl, ?_⟩) (by assumption) ?_
          rotate_left
          · (intro w hSw; (try dsimp only at hSw); go_simp; try with_reducible rfl)
          simp only [Act.put, List.setIfInBounds_toArray, List.set_cons_zero, List.set_cons_succ]
          refine wpAnyH_take (i := 9) (oi := ⟨some 28, .fieldAddr 69 (.tmp 27) 0, 0, "ref.go:40", #[⟨8, .data⟩, ⟨0, .phase⟩, ⟨1, .phase⟩, ⟨2, .phase⟩, ⟨3, .phase⟩, ⟨4, .phase⟩, ⟨5, .phase⟩, ⟨6, .phase⟩, ⟨7, .phase⟩], none⟩) (v := ?_) rfl (by kernel_rfl) (by kernel_rfl) (by kernel_rfl) (fun _ _ _ h => h) (Or.inl ⟨by rfl, ?_⟩) (by assumption) ?_
          rotate_left
          · (intro w hSw; (try dsimp only at hSw); go_simp; try with_reducible rfl)
          simp only [Act.put, List.setIfInBounds_toArray, List.set_cons_zero, List.set_cons_succ]
          refine wpAnyH_ready (rs := [10]) (by kernel_rfl) (by simp) ?_
          refine AllReadyH.cons (o := ⟨none, .store 66 (.tmp 28) (.tmp 26), 0, "ref.go:40", #[⟨9, .data⟩, ⟨7, .data⟩, ⟨7, .chain⟩, ⟨0, .phase⟩, ⟨1, .phase⟩, ⟨2, .phase⟩, ⟨3, .phase⟩, ⟨4, .phase⟩, ⟨5, .phase⟩, ⟨6, .phase⟩, ⟨7, .phase⟩], none⟩) rfl (fun K hK => ?_) AllReadyH.nil
          go_simp
          try simp only []
          refine hK.out _ _ trivial (fun hHeld => ?_)
          clear hK K
          try simp only [Act.put, List.setIfInBounds_toArray, List.set_cons_zero, List.set_cons_succ]
          refine wpAnyH_done (by kernel_rfl) ?_ _
          go_wp2_with fail
          go_roundw
          case rel => exact ⟨i + 1, _, xs ++ [_], by omega, by go_num, by rw [List.length_append, HX.out]; rfl, HR.out.push (Nat.le_refl _) (Nat.le_refl _) (md.trans' hmv) HV.out HK1.out HK2.out⟩
          case measure => simp [intOf]; omega
        ·
          go_simp
          try simp only []
          refine hK.out _ _ trivial (fun hHeld => ?_)
          clear hK K
          try simp only [Act.put, List.setIfInBounds_toArray, List.set_cons_zero, List.set_cons_succ]
          refine wpAnyH_ready (rs := [4]) (by kernel_rfl) (by simp) ?_
          refine AllReadyH.cons (o := ⟨some 23, .load 66 (.tmp 22), 66, "ref.go:40", #[⟨3, .data⟩], none⟩) rfl (fun K hK => ?_) AllReadyH.nil
          go_simp
          try simp only []
          refine hK.out _ _ trivial (fun hHeld => ?_)
          clear hK K
          try simp only [Act.put, List.setIfInBounds_toArray, List.set_cons_zero, List.set_cons_succ]
          refine wpAnyH_ready (rs := [7]) (by kernel_rfl) (by simp) ?_
          refine AllReadyH.cons (o := ⟨some 26, .call { callee := .builtin .append, args := #[.tmp 23, .tmp 25], argTypes := #[66, 66] }, 66, "ref.go:40", #[⟨4, .data⟩, ⟨6, .data⟩, ⟨5, .chain⟩], none⟩) rfl (fun K hK => ?_) AllReadyH.nil
          clear hcb hca
          refine appR_step 66 22 _ 1 24 Try.underlying66 info22 rfl (by decide) (by decide) rfl _ _ rfl w.heap.size (.slice asv xs.length csv) xs.length xs rfl (owns_mod HR.out.safe (md.trans' (hmv.trans' (Mod.alloc _ _ _))) (fun _ _ => id)) ⟨wa.heap.size, 0, none⟩ 1 1 _ rfl rfl (cells_new wa _ 22) (slices_oneCell _ _ _) (by rw [HX.out]; omega) (by have := hmv.size; simp at this ⊢; omega) ?_
          intro v' w3 k1 k2 _
          obtain ⟨a3, c3, e3, -, -, -⟩ := owns_shape k1
          subst e3
          have hat3 := k2.obj ((md.trans' (hmv.trans' (Mod.alloc _ _ _))).obj HAT.out id) (fun e => HNP.out e.symm)
          have d0 := cell_of_row w3 w.heap.size 0 _ 69 (0, 0) hat3
          have t0 := thaw_of (i := 0) hat3
          have HK1 := Lib.hid k1
          have HK2 := Lib.hid k2
          have HV := Lib.hid hv
          clear k1 k2 hat3 hv
          simp only [Act.put, List.setIfInBounds_toArray, List.set_cons_zero, List.set_cons_succ]
          refine hK.out _ _ (trivial) (fun _ => ?_)
          clear hK K
          try simp only [Act.put, List.setIfInBounds_toArray, List.set_cons_zero, List.set_cons_succ]
          refine wpAnyH_take (i := 8) (oi := ⟨some 27, .nilCheck (.tmp 19), 0, "ref.go:40", #[⟨0, .data⟩, ⟨0, .phase⟩, ⟨1, .phase⟩, ⟨2, .phase⟩, ⟨3, .phase⟩, ⟨4, .phase⟩, ⟨5, .phase⟩, ⟨6, .phase⟩, ⟨7, .phase⟩], none⟩) (v := ?_) rfl (by kernel_rfl) (by kernel_rfl) (by kernel_rfl) (fun _ _ _ h => h) (Or.inl ⟨by rfl, ?_⟩) (by assumption) ?_
          rotate_left
          · (intro w hSw; (try dsimp only at hSw); go_simp; try with_reducible rfl)
          simp only [Act.put, List.setIfInBounds_toArray, List.set_cons_zero, List.set_cons_succ]
          refine wpAnyH_take (i := 9) (oi := ⟨some 28, .fieldAddr 69 (.tmp 27) 0, 0, "ref.go:40", #[⟨8, .data⟩, ⟨0, .phase⟩, ⟨1, .phase⟩, ⟨2, .phase⟩, ⟨3, .phase⟩, ⟨4, .phase⟩, ⟨5, .phase⟩, ⟨6, .phase⟩, ⟨7, .phase⟩], none⟩) (v := ?_) rfl (by kernel_rfl) (by kernel_rfl) (by kernel_rfl) (fun _ _ _ h => h) (Or.inl ⟨by rfl, ?_⟩) (by assumption) ?_
          rotate_left
          · (intro w hSw; (try dsimp only at hSw); go_simp; try with_reducible rfl)
          simp only [Act.put, List.setIfInBounds_toArray, List.set_cons_zero, List.set_cons_succ]
          refine wpAnyH_ready (rs := [10]) (by kernel_rfl) (by simp) ?_
          refine AllReadyH.cons (o := ⟨none, .store 66 (.tmp 28) (.tmp 26), 0, "ref.go:40", #[⟨9, .data⟩, ⟨7, .data⟩, ⟨7, .chain⟩, ⟨0, .phase⟩, ⟨1, .phase⟩, ⟨2, .phase⟩, ⟨3, .phase⟩, ⟨4, .phase⟩, ⟨5, .phase⟩, ⟨6, .phase⟩, ⟨7, .phase⟩], none⟩) rfl (fun K hK => ?_) AllReadyH.nil
          go_simp
          try simp only []
          refine hK.out _ _ trivial (fun hHeld => ?_)
          clear hK K
          try simp only [Act.put, List.setIfInBounds_toArray, List.set_cons_zero, List.set_cons_succ]
          refine wpAnyH_done (by kernel_rfl) ?_ _
          go_wp2_with fail
          go_roundw
          case rel => exact ⟨i + 1, _, xs ++ [_], by omega, by go_num, by rw [List.length_append, HX.out]; rfl, HR.out.push (Nat.le_refl _) (Nat.le_refl _) (md.trans' hmv) HV.out HK1.out HK2.out⟩
          case measure => simp [intOf]; omega
    · obtain rfl : i = n := by omega
      go_wp2
      go_ret2
      exact ⟨_, rfl, RB.born hB hR hi (by rw [List.length_replicate, hxl]; omega) (fun j hj => (zeros_sector i j (by omega)).symm)⟩

set_option maxRecDepth 100000 in
theorem rload_no {w : World} (a : Option Addr) (l : List UInt8) (cap : Nat) (hm : l.length ≤ 140737488355328) (hi : ¬ imageOk l.length) :
    Calls Try.prog 47 #[.slice a l.length cap] w fun e w' => e = .returned (.tuple #[.pointer none, .int .i64 1]) ∧ w = w' := by
  generalize l.length = n at *
  by_cases h1 : (n : Int) % 256 = 0
  · by_cases h2 : 1 ≤ (n : Int) / 256
    · have h3 : 4096 < (n : Int) / 256 := by unfold imageOk at hi; omega
      go_enter Try.func47, Try.ntmps47
      go_wp2
      go_ret2
      exact ⟨rfl, rfl⟩
    · have h2' : (n : Int) / 256 < 1 := by omega
      go_enter Try.func47, Try.ntmps47
      go_wp2
      go_ret2
      exact ⟨rfl, rfl⟩
  · have h1' : ((n : Int) % 256 != 0) = true := by simpa using h1
    go_enter Try.func47, Try.ntmps47
    go_wp2
    go_ret2
    exact ⟨rfl, rfl⟩

set_option maxHeartbeats 1000000 in
set_option maxRecDepth 100000 in
theorem rload_ok {w : World} {B : Nat} (hB : B ≤ w.heap.size) (a : Option Addr) (l : List UInt8) (cap : Nat) (hb : BytesAt w a l) (hcap : l.length ≤ cap) (hi : imageOk l.length) :
    Calls Try.prog 47 #[.slice a l.length cap] w fun e w' => ∃ v, e = .returned (.tuple #[v, .int .i64 0]) ∧ RBorn w B v (Dsk.of l) w' := by
  obtain ⟨n, hn⟩ : ∃ n, n = l.length / 256 := ⟨_, rfl⟩
  have hn1 : 1 ≤ n := by rw [hn]; exact hi.2.1
  have hn2 : n ≤ 4096 := by rw [hn]; exact hi.2.2
  have hnl : l.length = n * 256 := by rw [hn]; exact hi.1.symm
  obtain ⟨g, off, rfl, -⟩ := hb (by intro e; rw [e] at hnl; simp at hnl; omega)
  have h0 : (l.length : Int) % 256 = 0 := by omega
  have h1 : (l.length : Int) / 256 = (n : Int) := by omega
  have hlo : (1 : Int) ≤ (n : Int) := by omega
  have hhi : (n : Int) ≤ 4096 := by omega
  have hcap' : n * 256 ≤ cap := by omega
  have hr0 := RB.start (w0 := w) (H := w.heap.size) (sector l)
  have HR0 := Lib.hid hr0
  have HNL := Lib.hid hnl
  have HI := Lib.hid hi
  clear hr0 hn hi
  rw [hnl] at h0 h1 ⊢
  clear hnl hcap
  have e1 : ((n * 256 : Nat) : Int) % 256 = 0 := h0
  have e2 : ((n * 256 : Nat) : Int) / 256 = (n : Int) := h1
  clear h0 h1
  go_enter Try.func47, Try.ntmps47
  go_wp2_with fail
  go_loopw [6] (fun v6 wr => ∃ (i : Nat) (vs : Value) (xs : List Value), i ≤ n ∧ v6 = .int .i64 (i : Int) ∧ xs.length = i ∧ RB w wr w.heap.size w.heap.size vs xs (sector l)) (fun v6 _ => n - (intOf v6).toNat)
  case atStart => exact ⟨0, _, [], Nat.zero_le _, rfl, rfl, HR0.out⟩
  case round =>
    obtain ⟨i, vs, xs, hin, rfl, hxl, hR⟩ := hrel
    clear HR0
    by_cases hlt : i < n
    · have hlt' : (i : Int) < (n : Int) := by omega
      go_upto_region 8 with fail
      have md : Mod (fun _ => False) wr wr.drew := Mod.drew _ _
      obtain ⟨asv, csv, evs, -, -, -⟩ := owns_shape hR.safe
      subst evs
      have hcell := cell_of_row wr w.heap.size 0 _ 69 (0, 0) hR.at_
      have hat := hR.at_
      have hnp : (Value.slice asv xs.length csv).ownBlock ≠ some w.heap.size := own_ne hR.safe hat (by decide)
      have c0 : wr.drew.cell? ⟨w.heap.size, 0, none⟩ = some (.slice asv xs.length csv) := by simpa using hcell
      have hsz := hR.mod.size
      have hbs := (hb.mod (hR.mod.trans' md) (fun _ _ _ => id)).sub (i * 256) 256
      have hsl := sector_length l i n (by rw [HNL.out]; exact Nat.le_refl _) hlt
      have hc1 : (i : Int) * 256 + 256 ≤ (cap : Int) := by omega
      have HX := Lib.hid hxl
      have HR := Lib.hid hR
      have HAT := Lib.hid hat
      have HNP := Lib.hid hnp
      have HBS := Lib.hid hbs
      have HSL := Lib.hid hsl
      clear hcell hat hnp hR hxl hbs hsl
      have n1 : ((i : Int) * 256).toNat = i * 256 := by omega
      have n2 : (((i : Int) + 1) * 256).toNat = (i + 1) * 256 := by omega
      have o1 : 0 ≤ ((i : Int) + 1) * 256 := by omega
      have o2 : ((i : Int) + 1) * 256 ≤ (cap : Int) := by omega
      have o3 : 0 ≤ (i : Int) * 256 := by omega
      have o4 : (i : Int) ≤ (i : Int) + 1 := by omega
      have o5 : ¬ (cap = i * 256) := by omega
      have m1 : IntKind.i64.wrap ((i : Int) + 1) = (i : Int) + 1 := IntWalk.i64_in _ (by omega)
      have m2 : IntKind.i64.wrap ((i : Int) * 256) = (i : Int) * 256 := IntWalk.i64_in _ (by omega)
      have m3 : IntKind.i64.wrap (((i : Int) + 1) * 256) = ((i : Int) + 1) * 256 := IntWalk.i64_in _ (by omega)
      refine wp_region_held_drew (S := fun _ => True) (by kernel_rfl) (trivial) (fun hHeld => ?_)
      refine wpAnyH_take (i := 0) (oi := ⟨some 29, .move (.tmp 5), 60, "ref.go:53", #[], none⟩) (v := ?_) rfl (by kernel_rfl) (by kernel_rfl) (by kernel_rfl) (fun _ _ _ h => h) (Or.inl ⟨by rfl, ?_⟩) (by assumption) ?_
      rotate_left
      · (intro w hSw; (try dsimp only at hSw); go_simp; try with_reducible rfl)
      simp only [Act.put, List.setIfInBounds_toArray, List.set_cons_zero, List.set_cons_succ]
      refine wpAnyH_take (i := 1) (oi := ⟨some 30, .move (.tmp 5), 60, "ref.go:53", #[], none⟩) (v := ?_) rfl (by kernel_rfl) (by kernel_rfl) (by kernel_rfl) (fun _ _ _ h => h) (Or.inl ⟨by rfl, ?_⟩) (by assumption) ?_
      rotate_left
      · (intro w hSw; (try dsimp only at hSw); go_simp; try with_reducible rfl)
      simp only [Act.put, List.setIfInBounds_toArray, List.set_cons_zero, List.set_cons_succ]
      refine wpAnyH_take (i := 2) (oi := ⟨some 31, .nilCheck (.tmp 30), 0, "ref.go:53", #[⟨1, .data⟩], none⟩) (v := ?_) rfl (by kernel_rfl) (by kernel_rfl) (by kernel_rfl) (fun _ _ _ h => h) (Or.inl ⟨by rfl, ?_⟩) (by assumption) ?_
      rotate_left
      · (intro w hSw; (try dsimp only at hSw); go_simp; try with_reducible rfl)
      simp only [Act.put, List.setIfInBounds_toArray, List.set_cons_zero, List.set_cons_succ]
      refine wpAnyH_take (i := 3) (oi := ⟨some 32, .fieldAddr 69 (.tmp 31) 0, 0, "ref.go:53", #[⟨2, .data⟩], none⟩) (v := ?_) rfl (by kernel_rfl) (by kernel_rfl) (by kernel_rfl) (fun _ _ _ h => h) (Or.inl ⟨by rfl, ?_⟩) (by assumption) ?_
      rotate_left
      · (intro w hSw; (try dsimp only at hSw); go_simp; try with_reducible rfl)
      simp only [Act.put, List.setIfInBounds_toArray, List.set_cons_zero, List.set_cons_succ]
      refine wpAnyH_take (i := 5) (oi := ⟨some 34, .move (.tmp 0), 22, "ref.go:53", #[], none⟩) (v := ?_) rfl (by kernel_rfl) (by kernel_rfl) (by kernel_rfl) (fun _ _ _ h => h) (Or.inl ⟨by rfl, ?_⟩) (by assumption) ?_
      rotate_left
      · (intro w hSw; (try dsimp only at hSw); go_simp; try with_reducible rfl)
      simp only [Act.put, List.setIfInBounds_toArray, List.set_cons_zero, List.set_cons_succ]
      refine wpAnyH_take (i := 6) (oi := ⟨some 35, .move (.tmp 6), 3, "ref.go:53", #[], none⟩) (v := ?_) rfl (by kernel_rfl) (by kernel_rfl) (by kernel_rfl) (fun _ _ _ h => h) (Or.inl ⟨by rfl, ?_⟩) (by assumption) ?_
      rotate_left
      · (intro w hSw; (try dsimp only at hSw); go_simp; try with_reducible rfl)
      simp only [Act.put, List.setIfInBounds_toArray, List.set_cons_zero, List.set_cons_succ]
      refine wpAnyH_take (i := 7) (oi := ⟨some 36, .binOp .mul 3 (.tmp 35) (.const (.int .i64 256)) 3, 3, "ref.go:53", #[⟨6, .data⟩], none⟩) (v := ?_) rfl (by kernel_rfl) (by kernel_rfl) (by kernel_rfl) (fun _ _ _ h => h) (Or.inl ⟨by rfl, ?_⟩) (by assumption) ?_
      rotate_left
      · (intro w hSw; (try dsimp only at hSw); go_simp; try with_reducible rfl)
      simp only [Act.put, List.setIfInBounds_toArray, List.set_cons_zero, List.set_cons_succ]
      refine wpAnyH_take (i := 8) (oi := ⟨some 37, .move (.tmp 6), 3, "ref.go:53", #[], none⟩) (v := ?_) rfl (by kernel_rfl) (by kernel_rfl) (by kernel_rfl) (fun _ _ _ h => h) (Or.inl ⟨by rfl, ?_⟩) (by assumption) ?_
      rotate_left
      · (intro w hSw; (try dsimp only at hSw); go_simp; try with_reducible rfl)
      simp only [Act.put, List.setIfInBounds_toArray, List.set_cons_zero, List.set_cons_succ]
      refine wpAnyH_take (i := 9) (oi := ⟨some 38, .binOp .add 3 (.tmp 37) (.const (.int .i64 1)) 3, 3, "ref.go:53", #[⟨8, .data⟩], none⟩) (v := ?_) rfl (by kernel_rfl) (by kernel_rfl) (by kernel_rfl) (fun _ _ _ h => h) (Or.inl ⟨by rfl, ?_⟩) (by assumption) ?_
      rotate_left
      · (intro w hSw; (try dsimp only at hSw); go_simp; try with_reducible rfl)
      simp only [Act.put, List.setIfInBounds_toArray, List.set_cons_zero, List.set_cons_succ]
      refine wpAnyH_take (i := 10) (oi := ⟨some 39, .binOp .mul 3 (.tmp 38) (.const (.int .i64 256)) 3, 3, "ref.go:53", #[⟨9, .data⟩], none⟩) (v := ?_) rfl (by kernel_rfl) (by kernel_rfl) (by kernel_rfl) (fun _ _ _ h => h) (Or.inl ⟨by rfl, ?_⟩) (by assumption) ?_
      rotate_left
      · (intro w hSw; (try dsimp only at hSw); go_simp; try with_reducible rfl)
      simp only [Act.put, List.setIfInBounds_toArray, List.set_cons_zero, List.set_cons_succ]
      refine wpAnyH_take (i := 11) (oi := ⟨some 40, .slice 22 (.tmp 34) (some (.tmp 36)) (some (.tmp 39)) none, 22, "ref.go:53", #[⟨5, .data⟩, ⟨7, .data⟩, ⟨10, .data⟩], none⟩) (v := ?_) rfl (by kernel_rfl) (by kernel_rfl) (by kernel_rfl) (fun _ _ _ h => h) (Or.inl ⟨by rfl, ?_⟩) (by assumption) ?_
      rotate_left
      · (intro w hSw; (try dsimp only at hSw); go_simp; try with_reducible rfl)
      simp only [Act.put, List.setIfInBounds_toArray, List.set_cons_zero, List.set_cons_succ]
      refine wpAnyH_ready (rs := [4, 12]) (by kernel_rfl) (by simp) ?_
      refine AllReadyH.cons (o := ⟨some 33, .load 66 (.tmp 32), 66, "ref.go:53", #[⟨3, .data⟩], none⟩) rfl (fun K hK => ?_) (AllReadyH.cons (o := ⟨some 41, .call { callee := .value (.func 89), args := #[.tmp 40], argTypes := #[22] }, 22, "ref.go:53", #[⟨11, .data⟩], none⟩) rfl (fun K hK => ?_) AllReadyH.nil)
      ·
        go_simp
        try simp only []
        refine hK.out _ _ trivial (fun hHeld => ?_)
        clear hK K
        try simp only [Act.put, List.setIfInBounds_toArray, List.set_cons_zero, List.set_cons_succ]
        refine wpAnyH_ready (rs := [12]) (by kernel_rfl) (by simp) ?_
        refine AllReadyH.cons (o := ⟨some 41, .call { callee := .value (.func 89), args := #[.tmp 40], argTypes := #[22] }, 22, "ref.go:53", #[⟨11, .data⟩], none⟩) rfl (fun K hK => ?_) AllReadyH.nil
        go_simp
        refine (rfull_n (some ⟨g, off + i * 256, none⟩) (sector l i) _ _ (by rw [HSL.out]; clear m1 m2 m3; omega) _ w.heap.size (by clear m1 m2 m3; simp; omega) HBS.out (by rw [HSL.out]; decide)).mono ?_
        rintro e wa ⟨v, rfl, hv, hmv, -⟩
        have hca : wa.cell? ⟨w.heap.size, 0, none⟩ = some (.slice asv xs.length csv) := hmv.cell' c0 id
        have hcb : ∀ X, (wa.alloc X).cell? ⟨w.heap.size, 0, none⟩ = some (.slice asv xs.length csv) := fun X => (Mod.alloc (fun _ => False) wa X).cell' hca id
        obtain ⟨av, cv, ev, -, -, -⟩ := hv.shape
        subst ev
        try simp only []
        refine hK.out _ _ (trivial) (fun _ => ?_)
        clear hK K
        try simp only [Act.put, List.setIfInBounds_toArray, List.set_cons_zero, List.set_cons_succ]
        refine wpAnyH_ready (rs := [13]) (by kernel_rfl) (by simp) ?_
        refine AllReadyH.cons (o := ⟨some 42, .buildSlice 66 1 #[(0, .tmp 41)], 66, "ref.go:53", #[⟨12, .data⟩], none⟩) rfl (fun K hK => ?_) AllReadyH.nil
        go_simp
        try simp only []
        refine hK.out _ _ trivial (fun hHeld => ?_)
        clear hK K
        try simp only [Act.put, List.setIfInBounds_toArray, List.set_cons_zero, List.set_cons_succ]
        refine wpAnyH_ready (rs := [14]) (by kernel_rfl) (by simp) ?_
        refine AllReadyH.cons (o := ⟨some 43, .call { callee := .builtin .append, args := #[.tmp 33, .tmp 42], argTypes := #[66, 66] }, 66, "ref.go:53", #[⟨4, .data⟩, ⟨13, .data⟩, ⟨12, .chain⟩], none⟩) rfl (fun K hK => ?_) AllReadyH.nil
        clear m1 m2 m3
        clear hcb hca
        refine appR_step 66 22 _ 1 24 Try.underlying66 info22 rfl (by decide) (by decide) rfl _ _ rfl w.heap.size (.slice asv xs.length csv) xs.length xs rfl (owns_mod HR.out.safe (md.trans' (hmv.trans' (Mod.alloc _ _ _))) (fun _ _ => id)) ⟨wa.heap.size, 0, none⟩ 1 1 _ rfl rfl (cells_new wa _ 22) (slices_oneCell _ _ _) (by rw [HX.out]; omega) (by have := hmv.size; simp at this ⊢; omega) ?_
        intro v' w3 k1 k2 _
        obtain ⟨a3, c3, e3, -, -, -⟩ := owns_shape k1
        subst e3
        have hat3 := k2.obj ((md.trans' (hmv.trans' (Mod.alloc _ _ _))).obj HAT.out id) (fun e => HNP.out e.symm)
        have d0 := cell_of_row w3 w.heap.size 0 _ 69 (0, 0) hat3
        have t0 := thaw_of (i := 0) hat3
        have HK1 := Lib.hid k1
        have HK2 := Lib.hid k2
        have HV := Lib.hid hv
        clear k1 k2 hat3 hv
        simp only [Act.put, List.setIfInBounds_toArray, List.set_cons_zero, List.set_cons_succ]
        refine hK.out _ _ (trivial) (fun _ => ?_)
        clear hK K
        try simp only [Act.put, List.setIfInBounds_toArray, List.set_cons_zero, List.set_cons_succ]
        refine wpAnyH_take (i := 15) (oi := ⟨some 44, .nilCheck (.tmp 29), 0, "ref.go:53", #[⟨0, .data⟩, ⟨0, .phase⟩, ⟨1, .phase⟩, ⟨2, .phase⟩, ⟨3, .phase⟩, ⟨4, .phase⟩, ⟨5, .phase⟩, ⟨6, .phase⟩, ⟨7, .phase⟩, ⟨8, .phase⟩, ⟨9, .phase⟩, ⟨10, .phase⟩, ⟨11, .phase⟩, ⟨12, .phase⟩, ⟨13, .phase⟩, ⟨14, .phase⟩], none⟩) (v := ?_) rfl (by kernel_rfl) (by kernel_rfl) (by kernel_rfl) (fun _ _ _ h => h) (Or.inl ⟨by rfl, ?_⟩) (by assumption) ?_
        rotate_left
        · (intro w hSw; (try dsimp only at hSw); go_simp; try with_reducible rfl)
        simp only [Act.put, List.setIfInBounds_toArray, List.set_cons_zero, List.set_cons_succ]
        refine wpAnyH_take (i := 16) (oi := ⟨some 45, .fieldAddr 69 (.tmp 44) 0, 0, "ref.go:53", #[⟨15, .data⟩, ⟨0, .phase⟩, ⟨1, .phase⟩, ⟨2, .phase⟩, ⟨3, .phase⟩, ⟨4, .phase⟩, ⟨5, .phase⟩, ⟨6, .phase⟩, ⟨7, .phase⟩, ⟨8, .phase⟩, ⟨9, .phase⟩, ⟨10, .phase⟩, ⟨11, .phase⟩, ⟨12, .phase⟩, ⟨13, .phase⟩, ⟨14, .phase⟩], none⟩) (v := ?_) rfl (by kernel_rfl) (by kernel_rfl) (by kernel_rfl) (fun _ _ _ h => h) (Or.inl ⟨by rfl, ?_⟩) (by assumption) ?_
        rotate_left
        · (intro w hSw; (try dsimp only at hSw); go_simp; try with_reducible rfl)
        simp only [Act.put, List.setIfInBounds_toArray, List.set_cons_zero, List.set_cons_succ]
        refine wpAnyH_ready (rs := [17]) (by kernel_rfl) (by simp) ?_
        refine AllReadyH.cons (o := ⟨none, .store 66 (.tmp 45) (.tmp 43), 0, "ref.go:53", #[⟨16, .data⟩, ⟨14, .data⟩, ⟨14, .chain⟩, ⟨0, .phase⟩, ⟨1, .phase⟩, ⟨2, .phase⟩, ⟨3, .phase⟩, ⟨4, .phase⟩, ⟨5, .phase⟩, ⟨6, .phase⟩, ⟨7, .phase⟩, ⟨8, .phase⟩, ⟨9, .phase⟩, ⟨10, .phase⟩, ⟨11, .phase⟩, ⟨12, .phase⟩, ⟨13, .phase⟩, ⟨14, .phase⟩], none⟩) rfl (fun K hK => ?_) AllReadyH.nil
        go_simp
        try simp only []
        refine hK.out _ _ trivial (fun hHeld => ?_)
        clear hK K
        try simp only [Act.put, List.setIfInBounds_toArray, List.set_cons_zero, List.set_cons_succ]
        refine wpAnyH_done (by kernel_rfl) ?_ _
        go_wp2_with fail
        go_roundw
        case rel => exact ⟨i + 1, _, xs ++ [_], by omega, by go_num, by rw [List.length_append, HX.out]; rfl, HR.out.push (Nat.le_refl _) (Nat.le_refl _) (md.trans' hmv) (HV.out.to (by rw [HX.out]; exact sect_full _ HSL.out)) HK1.out HK2.out⟩
        case measure => simp [intOf]; omega
      ·
        go_simp
        refine (rfull_n (some ⟨g, off + i * 256, none⟩) (sector l i) _ _ (by rw [HSL.out]; clear m1 m2 m3; omega) _ w.heap.size (by clear m1 m2 m3; simp; omega) HBS.out (by rw [HSL.out]; decide)).mono ?_
        rintro e wa ⟨v, rfl, hv, hmv, -⟩
        have hca : wa.cell? ⟨w.heap.size, 0, none⟩ = some (.slice asv xs.length csv) := hmv.cell' c0 id
        have hcb : ∀ X, (wa.alloc X).cell? ⟨w.heap.size, 0, none⟩ = some (.slice asv xs.length csv) := fun X => (Mod.alloc (fun _ => False) wa X).cell' hca id
        obtain ⟨av, cv, ev, -, -, -⟩ := hv.shape
        subst ev
        try simp only []
        refine hK.out _ _ (trivial) (fun _ => ?_)
        clear hK K
        try simp only [Act.put, List.setIfInBounds_toArray, List.set_cons_zero, List.set_cons_succ]
        refine wpAnyH_ready (rs := [4, 13]) (by kernel_rfl) (by simp) ?_
        refine AllReadyH.cons (o := ⟨some 33, .load 66 (.tmp 32), 66, "ref.go:53", #[⟨3, .data⟩], none⟩) rfl (fun K hK => ?_) (AllReadyH.cons (o := ⟨some 42, .buildSlice 66 1 #[(0, .tmp 41)], 66, "ref.go:53", #[⟨12, .data⟩], none⟩) rfl (fun K hK => ?_) AllReadyH.nil)
        ·
          go_simp
          try simp only []
          refine hK.out _ _ trivial (fun hHeld => ?_)
          clear hK K
          try simp only [Act.put, List.setIfInBounds_toArray, List.set_cons_zero, List.set_cons_succ]
          refine wpAnyH_ready (rs := [13]) (by kernel_rfl) (by simp) ?_
          refine AllReadyH.cons (o := ⟨some 42, .buildSlice 66 1 #[(0, .tmp 41)], 66, "ref.go:53", #[⟨12, .data⟩], none⟩) rfl (fun K hK => ?_) AllReadyH.nil
          go_simp
          try simp only []
          refine hK.out _ _ trivial (fun hHeld => ?_)
          clear hK K
          try simp only [Act.put, List.setIfInBounds_toArray, List.set_cons_zero, List.set_cons_succ]
          refine wpAnyH_ready (rs := [14]) (by kernel_rfl) (by simp) ?_
          refine AllReadyH.cons (o := ⟨some 43, .call { callee := .builtin .append, args := #[.tmp 33, .tmp 42], argTypes := #[66, 66] }, 66, "ref.go:53", #[⟨4, .data⟩, ⟨13, .data⟩, ⟨12, .chain⟩], none⟩) rfl (fun K hK => ?_) AllReadyH.nil
          clear m1 m2 m3
          clear hcb hca
          refine appR_step 66 22 _ 1 24 Try.underlying66 info22 rfl (by decide) (by decide) rfl _ _ rfl w.heap.size (.slice asv xs.length csv) xs.length xs rfl (owns_mod HR.out.safe (md.trans' (hmv.trans' (Mod.alloc _ _ _))) (fun _ _ => id)) ⟨wa.heap.size, 0, none⟩ 1 1 _ rfl rfl (cells_new wa _ 22) (slices_oneCell _ _ _) (by rw [HX.out]; omega) (by have := hmv.size; simp at this ⊢; omega) ?_
          intro v' w3 k1 k2 _
          obtain ⟨a3, c3, e3, -, -, -⟩ := owns_shape k1
          subst e3
          have hat3 := k2.obj ((md.trans' (hmv.trans' (Mod.alloc _ _ _))).obj HAT.out id) (fun e => HNP.out e.symm)
          have d0 := cell_of_row w3 w.heap.size 0 _ 69 (0, 0) hat3
          have t0 := thaw_of (i := 0) hat3
          have HK1 := Lib.hid k1
          have HK2 := Lib.hid k2
          have HV := Lib.hid hv
          clear k1 k2 hat3 hv
          simp only [Act.put, List.setIfInBounds_toArray, List.set_cons_zero, List.set_cons_succ]
          refine hK.out _ _ (trivial) (fun _ => ?_)
          clear hK K
          try simp only [Act.put, List.setIfInBounds_toArray, List.set_cons_zero, List.set_cons_succ]
          refine wpAnyH_take (i := 15) (oi := ⟨some 44, .nilCheck (.tmp 29), 0, "ref.go:53", #[⟨0, .data⟩, ⟨0, .phase⟩, ⟨1, .phase⟩, ⟨2, .phase⟩, ⟨3, .phase⟩, ⟨4, .phase⟩, ⟨5, .phase⟩, ⟨6, .phase⟩, ⟨7, .phase⟩, ⟨8, .phase⟩, ⟨9, .phase⟩, ⟨10, .phase⟩, ⟨11, .phase⟩, ⟨12, .phase⟩, ⟨13, .phase⟩, ⟨14, .phase⟩], none⟩) (v := ?_) rfl (by kernel_rfl) (by kernel_rfl) (by kernel_rfl) (fun _ _ _ h => h) (Or.inl ⟨by rfl, ?_⟩) (by assumption) ?_
          rotate_left
          · (intro w hSw; (try dsimp only at hSw); go_simp; try with_reducible rfl)
          simp only [Act.put, List.setIfInBounds_toArray, List.set_cons_zero, List.set_cons_succ]
          refine wpAnyH_take (i := 16) (oi := ⟨some 45, .fieldAddr 69 (.tmp 44) 0, 0, "ref.go:53", #[⟨15, .data⟩, ⟨0, .phase⟩, ⟨1, .phase⟩, ⟨2, .phase⟩, ⟨3, .phase⟩, ⟨4, .phase⟩, ⟨5, .phase⟩, ⟨6, .phase⟩, ⟨7, .phase⟩, ⟨8, .phase⟩, ⟨9, .phase⟩, ⟨10, .phase⟩, ⟨11, .phase⟩, ⟨12, .phase⟩, ⟨13, .phase⟩, ⟨14, .phase⟩], none⟩) (v := ?_) rfl (by kernel_rfl) (by kernel_rfl) (by kernel_rfl) (fun _ _ _ h => h) (Or.inl ⟨by rfl, ?_⟩) (by assumption) ?_
          rotate_left
          · (intro w hSw; (try dsimp only at hSw); go_simp; try with_reducible rfl)
          simp only [Act.put, List.setIfInBounds_toArray, List.set_cons_zero, List.set_cons_succ]
          refine wpAnyH_ready (rs := [17]) (by kernel_rfl) (by simp) ?_
          refine AllReadyH.cons (o := ⟨none, .store 66 (.tmp 45) (.tmp 43), 0, "ref.go:53", #[⟨16, .data⟩, ⟨14, .data⟩, ⟨14, .chain⟩, ⟨0, .phase⟩, ⟨1, .phase⟩, ⟨2, .phase⟩, ⟨3, .phase⟩, ⟨4, .phase⟩, ⟨5, .phase⟩, ⟨6, .phase⟩, ⟨7, .phase⟩, ⟨8, .phase⟩, ⟨9, .phase⟩, ⟨10, .phase⟩, ⟨11, .phase⟩, ⟨12, .phase⟩, ⟨13, .phase⟩, ⟨14, .phase⟩], none⟩) rfl (fun K hK => ?_) AllReadyH.nil
          go_simp
          try simp only []
          refine hK.out _ _ trivial (fun hHeld => ?_)
          clear hK K
          try simp only [Act.put, List.setIfInBounds_toArray, List.set_cons_zero, List.set_cons_succ]
          refine wpAnyH_done (by kernel_rfl) ?_ _
          go_wp2_with fail
          go_roundw
          case rel => exact ⟨i + 1, _, xs ++ [_], by omega, by go_num, by rw [List.length_append, HX.out]; rfl, HR.out.push (Nat.le_refl _) (Nat.le_refl _) (md.trans' hmv) (HV.out.to (by rw [HX.out]; exact sect_full _ HSL.out)) HK1.out HK2.out⟩
          case measure => simp [intOf]; omega
        ·
          go_simp
          try simp only []
          refine hK.out _ _ trivial (fun hHeld => ?_)
          clear hK K
          try simp only [Act.put, List.setIfInBounds_toArray, List.set_cons_zero, List.set_cons_succ]
          refine wpAnyH_ready (rs := [4]) (by kernel_rfl) (by simp) ?_
          refine AllReadyH.cons (o := ⟨some 33, .load 66 (.tmp 32), 66, "ref.go:53", #[⟨3, .data⟩], none⟩) rfl (fun K hK => ?_) AllReadyH.nil
          go_simp
          try simp only []
          refine hK.out _ _ trivial (fun hHeld => ?_)
          clear hK K
          try simp only [Act.put, List.setIfInBounds_toArray, List.set_cons_zero, List.set_cons_succ]
          refine wpAnyH_ready (rs := [14]) (by kernel_rfl) (by simp) ?_
          refine AllReadyH.cons (o := ⟨some 43, .call { callee := .builtin .append, args := #[.tmp 33, .tmp 42], argTypes := #[66, 66] }, 66, "ref.go:53", #[⟨4, .data⟩, ⟨13, .data⟩, ⟨12, .chain⟩], none⟩) rfl (fun K hK => ?_) AllReadyH.nil
          clear m1 m2 m3
          clear hcb hca
          refine appR_step 66 22 _ 1 24 Try.underlying66 info22 rfl (by decide) (by decide) rfl _ _ rfl w.heap.size (.slice asv xs.length csv) xs.length xs rfl (owns_mod HR.out.safe (md.trans' (hmv.trans' (Mod.alloc _ _ _))) (fun _ _ => id)) ⟨wa.heap.size, 0, none⟩ 1 1 _ rfl rfl (cells_new wa _ 22) (slices_oneCell _ _ _) (by rw [HX.out]; omega) (by have := hmv.size; simp at this ⊢; omega) ?_
          intro v' w3 k1 k2 _
          obtain ⟨a3, c3, e3, -, -, -⟩ := owns_shape k1
          subst e3
          have hat3 := k2.obj ((md.trans' (hmv.trans' (Mod.alloc _ _ _))).obj HAT.out id) (fun e => HNP.out e.symm)
          have d0 := cell_of_row w3 w.heap.size 0 _ 69 (0, 0) hat3
          have t0 := thaw_of (i := 0) hat3
          have HK1 := Lib.hid k1
          have HK2 := Lib.hid k2
          have HV := Lib.hid hv
          clear k1 k2 hat3 hv
          simp only [Act.put, List.setIfInBounds_toArray, List.set_cons_zero, List.set_cons_succ]
          refine hK.out _ _ (trivial) (fun _ => ?_)
          clear hK K
          try simp only [Act.put, List.setIfInBounds_toArray, List.set_cons_zero, List.set_cons_succ]
          refine wpAnyH_take (i := 15) (oi := ⟨some 44, .nilCheck (.tmp 29), 0, "ref.go:53", #[⟨0, .data⟩, ⟨0, .phase⟩, ⟨1, .phase⟩, ⟨2, .phase⟩, ⟨3, .phase⟩, ⟨4, .phase⟩, ⟨5, .phase⟩, ⟨6, .phase⟩, ⟨7, .phase⟩, ⟨8, .phase⟩, ⟨9, .phase⟩, ⟨10, .phase⟩, ⟨11, .phase⟩, ⟨12, .phase⟩, ⟨13, .phase⟩, ⟨14, .phase⟩], none⟩) (v := ?_) rfl (by kernel_rfl) (by kernel_rfl) (by kernel_rfl) (fun _ _ _ h => h) (Or.inl ⟨by rfl, ?_⟩) (by assumption) ?_
          rotate_left
          · (intro w hSw; (try dsimp only at hSw); go_simp; try with_reducible rfl)
          simp only [Act.put, List.setIfInBounds_toArray, List.set_cons_zero, List.set_cons_succ]
          refine wpAnyH_take (i := 16) (oi := ⟨some 45, .fieldAddr 69 (.tmp 44) 0, 0, "ref.go:53", #[⟨15, .data⟩, ⟨0, .phase⟩, ⟨1, .phase⟩, ⟨2, .phase⟩, ⟨3, .phase⟩, ⟨4, .phase⟩, ⟨5, .phase⟩, ⟨6, .phase⟩, ⟨7, .phase⟩, ⟨8, .phase⟩, ⟨9, .phase⟩, ⟨10, .phase⟩, ⟨11, .phase⟩, ⟨12, .phase⟩, ⟨13, .phase⟩, ⟨14, .phase⟩], none⟩) (v := ?_) rfl (by kernel_rfl) (by kernel_rfl) (by kernel_rfl) (fun _ _ _ h => h) (Or.inl ⟨by rfl, ?_⟩) (by assumption) ?_
          rotate_left
          · (intro w hSw; (try dsimp only at hSw); go_simp; try with_reducible rfl)
          simp only [Act.put, List.setIfInBounds_toArray, List.set_cons_zero, List.set_cons_succ]
          refine wpAnyH_ready (rs := [17]) (by kernel_rfl) (by simp) ?_
          refine AllReadyH.cons (o := ⟨none, .store 66 (.tmp 45) (.tmp 43), 0, "ref.go:53", #[⟨16, .data⟩, ⟨14, .data⟩, ⟨14, .chain⟩, ⟨0, .phase⟩, ⟨1, .phase⟩, ⟨2, .phase⟩, ⟨3, .phase⟩, ⟨4, .phase⟩, ⟨5, .phase⟩, ⟨6, .phase⟩, ⟨7, .phase⟩, ⟨8, .phase⟩, ⟨9, .phase⟩, ⟨10, .phase⟩, ⟨11, .phase⟩, ⟨12, .phase⟩, ⟨13, .phase⟩, ⟨14, .phase⟩], none⟩) rfl (fun K hK => ?_) AllReadyH.nil
          go_simp
          try simp only []
          refine hK.out _ _ trivial (fun hHeld => ?_)
          clear hK K
          try simp only [Act.put, List.setIfInBounds_toArray, List.set_cons_zero, List.set_cons_succ]
          refine wpAnyH_done (by kernel_rfl) ?_ _
          go_wp2_with fail
          go_roundw
          case rel => exact ⟨i + 1, _, xs ++ [_], by omega, by go_num, by rw [List.length_append, HX.out]; rfl, HR.out.push (Nat.le_refl _) (Nat.le_refl _) (md.trans' hmv) (HV.out.to (by rw [HX.out]; exact sect_full _ HSL.out)) HK1.out HK2.out⟩
          case measure => simp [intOf]; omega
    · obtain rfl : i = n := by omega
      go_wp2
      go_ret2
      exact ⟨_, rfl, RB.born hB hR HI.out (by rw [HNL.out, hxl]; omega) (fun j hj => rfl)⟩
end Go.Proofs.Ytdinnkacilgmmaa
namespace Go.Proofs.Ytdinnkacilgmmaa
open Go.RowKit

theorem splice_get' (s : List UInt8) (off : Nat) (b : List UInt8) (h : off + b.length ≤ s.length) (i : Nat) :
    (splice s off b)[i]? = if off ≤ i ∧ i < off + b.length then b[i - off]? else s[i]? := by
  unfold splice
  rw [List.getElem?_append, List.length_take, Nat.min_eq_left (by omega)]
  by_cases h1 : i < off
  · rw [if_pos h1, if_neg (by omega), List.getElem?_take, if_pos h1]
  · rw [if_neg h1, List.getElem?_append]
    by_cases h2 : i - off < b.length
    · rw [if_pos h2, if_pos (by omega)]
    · rw [if_neg h2, if_neg (by omega), List.getElem?_drop]
      congr 1
      omega

theorem sector_get (s : List UInt8) (k j : Nat) : (sector s k)[j]? = if j < 256 then s[k * 256 + j]? else none := by
  unfold sector
  rw [List.getElem?_take]
  split
  · rw [List.getElem?_drop]
  · rfl
theorem sector_lay_at (s : List UInt8) (n : Nat) (b : List UInt8) (hs : n * 256 + 256 ≤ s.length) (hb : b.length = 256) : sector (lay s n b) n = b := by
  apply List.ext_getElem?
  intro j
  rw [sector_get]
  unfold lay
  rw [splice_get' s (n * 256) b (by omega)]
  by_cases h : j < 256
  · rw [if_pos h, if_pos (by omega)]
    congr 1
    omega
  · rw [if_neg h, List.getElem?_eq_none (by omega)]
theorem sector_lay_off (s : List UInt8) (n m : Nat) (b : List UInt8) (hs : n * 256 + b.length ≤ s.length) (hb : b.length ≤ 256) (h : m ≠ n) : sector (lay s n b) m = sector s m := by
  apply List.ext_getElem?
  intro j
  rw [sector_get, sector_get]
  unfold lay
  rw [splice_get' s (n * 256) b (by omega)]
  by_cases hj : j < 256
  · rw [if_pos hj, if_pos hj, if_neg (by omega)]
  · rw [if_neg hj, if_neg hj]

/-- the sector behind one write more -/
theorem sector_step (D : Dsk) (h : D.wf) (n i : Nat) (hn : n < D.N) (hi : i < D.l.length) :
    sector (layAll D.safe (D.l.take (i + 1))) n = if D.l[i].1 = n then D.l[i].2 else sector (layAll D.safe (D.l.take i)) n := by
  have hx := h.l _ (List.getElem_mem hi)
  have hlen : (layAll D.safe (D.l.take i)).length = D.safe.length := layAll_length _ _ (fun x hx => h.fit x (List.mem_of_mem_take hx))
  have hs := h.len
  rw [List.take_succ_eq_append_getElem hi, layAll_snoc]
  have h1 : D.l[i].1 * 256 + 256 ≤ D.safe.length := by rw [hs]; have := hx.1; omega
  split
  · rename_i e
    subst e
    exact sector_lay_at _ _ _ (by rw [hlen]; exact h1) hx.2
  · rename_i e
    exact sector_lay_off _ _ _ _ (by rw [hlen, hx.2]; exact h1) (by omega) (fun e' => e e'.symm)

section
variable {w : World} {B p : Nat} {vs vl : Value} {xs ys : List Value} {D : Dsk}

set_option maxRecDepth 100000 in
theorem rimage_any (h : RV w B p vs vl xs ys D) (C : Nat) (hC : C ≤ w.heap.size) : Calls Try.prog 93 #[.pointer (some ⟨p, 0, none⟩)] w fun e w' =>
    ∃ v, e = .returned v ∧ OwnB w' C v D.safe ∧ Mod (fun _ => False) w w' ∧ (∀ k, v.ownBlock = some k → w.heap.size ≤ k) := by
  obtain ⟨c0, -⟩ := h.cell
  obtain ⟨as1, cs1, es, -, -, hpos⟩ := owns_shape h.safe
  obtain ⟨gs, rfl, hgs⟩ := hpos (by have := h.wf.pos; have := h.hx; omega)
  have hrow := (h.rows).1 gs hgs
  have hN := h.hx
  have hlen := h.wf.len
  have htop := h.wf.top
  subst es
  rw [hN] at c0
  have HN := Lib.hid hN
  have HLEN := Lib.hid hlen
  have HROW := Lib.hid hrow
  clear hN hlen hrow hgs hpos
  go_enter Try.func93, Try.ntmps93
  go_wp2_with fail
  go_loopw [3, 4] (fun v3 v4 wr => ∃ i : Nat, i ≤ D.N ∧ v4 = .int .i64 (i : Int) ∧ OwnB wr w.heap.size v3 (D.safe.take (i * 256)) ∧ Mod (fun _ => False) w wr) (fun _ v4 _ => D.N - (intOf v4).toNat)
  case atStart => exact ⟨0, Nat.zero_le _, rfl, by rw [Nat.zero_mul, List.take_zero]; exact OwnB.nil _ _, Mod.refl _ _⟩
  case round =>
    obtain ⟨i, hi, rfl, ho, hm⟩ := hrel
    have d0 := hm.cell' c0 id
    by_cases hlt : i < D.N
    · have hlt' : (i : Int) < (D.N : Int) := by omega
      have hix : i < xs.length := by rw [HN.out]; exact hlt
      have hex := (h.ex i hix).mod hm (fun _ _ => id)
      have dx := hm.cell' (HROW.out i hix).1 id
      have hsl := sector_length D.safe i D.N (by rw [HLEN.out]; exact Nat.le_refl _) hlt
      obtain ⟨a1, c1, e1, -, -, hbb⟩ := hex.shape
      have hna : a1 = none → c1 = 0 := by
        rintro rfl
        obtain ⟨_, _, e, _⟩ := hbb (by intro e; rw [e] at hsl; cases hsl)
        cases e
      rw [e1] at dx
      rw [hsl] at dx
      have htl : (D.safe.take (i * 256)).length ≤ 1048576 := by rw [List.length_take, HLEN.out]; omega
      have HTS := Lib.hid (take_sector D.safe i)
      have HSL := Lib.hid hsl
      clear hsl hex e1
      generalize sector D.safe i = sn at *
      have hle : w.heap.size ≤ wr.heap.size := hm.size
      go_wp2_with (first
        | (at_builtin; refine appB rfl _ _ rfl w.heap.size _ _ rfl ho a1 _ c1 sn rfl HSL.out hna hbb (by rw [HSL.out]; omega) hle ?_; intro v7 w7 ho7 hm7 _))
      go_roundw
      case rel => exact ⟨i + 1, by omega, by go_num, by rw [← HTS.out]; exact ho7, hm.trans hm7 (fun k hk e => by have := (World.ownsRow.lt ho k e.symm).1; omega)⟩
      case measure => simp [intOf]; omega
    · obtain rfl : i = D.N := by omega
      rw [← HLEN.out, List.take_length] at ho
      go_wp2
      go_ret
      exact ⟨_, rfl, ho.weaken hC, hm, fun k hk => (World.ownsRow.lt ho k hk).1⟩

set_option maxRecDepth 100000 in
theorem rread_any (h : RV w B p vs vl xs ys D) (n : Int) (C : Nat) (hC : C ≤ w.heap.size) (hlim : D.l.length ≤ 1048576) : Calls Try.prog 94 #[.pointer (some ⟨p, 0, none⟩), .int .i64 n] w fun e w' =>
    ∃ v, e = .returned (.tuple #[v, .int .i64 (D.wrong n)]) ∧ OwnB w' C v (if D.wrong n = 0 then sector D.now n.toNat else []) ∧ Mod (fun _ => False) w w' ∧ (∀ k, v.ownBlock = some k → w.heap.size ≤ k) := by
  obtain ⟨c0, c1, -⟩ := h.cell
  obtain ⟨as1, cs1, es, -, -, hpos⟩ := owns_shape h.safe
  obtain ⟨gs, rfl, hgs⟩ := hpos (by have := h.wf.pos; have := h.hx; omega)
  obtain ⟨al1, cl1, el, -, -, hposl⟩ := owns_shape h.l
  have hrow := (h.rows).1 gs hgs
  have hrl := (h.rows).2
  have hN := h.hx
  have hY := h.hy
  subst es el
  rw [hN] at c0
  have HN := Lib.hid hN
  have HY := Lib.hid hY
  have HROW := Lib.hid hrow
  have HRL := Lib.hid hrl
  have HPL := Lib.hid hposl
  have hmx := h.wf.top
  clear hN hY hrow hrl hposl hgs
  by_cases hw : D.wrong n = 0
  · obtain ⟨k, rfl⟩ : ∃ k : Nat, n = (k : Int) := ⟨n.toNat, by unfold Dsk.wrong at hw; split at hw <;> omega⟩
    have hk : k < D.N := by unfold Dsk.wrong at hw; split at hw <;> omega
    have hk' : (k : Int) < (D.N : Int) := by omega
    rw [hw, if_pos rfl, Int.toNat_natCast]
    clear hw
    have hkx : k < xs.length := by rw [HN.out]; exact hk
    have dx := (HROW.out k hkx).1
    have hex := h.ex k hkx
    generalize xs[k] = x at *
    go_enter Try.func94, Try.ntmps94
    go_wp2_with fail
    go_loop [6, 7] (fun v6 v7 => ∃ i : Nat, i ≤ D.l.length ∧ v7 = .int .i64 (i : Int) ∧ OwnB w B v6 (sector (layAll D.safe (D.l.take i)) k)) (fun _ v7 => D.l.length - (intOf v7).toNat)
    case atStart => exact ⟨0, Nat.zero_le _, rfl, by rw [List.take_zero]; exact hex⟩
    case round =>
      obtain ⟨i, hi, rfl, ho⟩ := hrel
      by_cases hlt : i < D.l.length
      · have hlt' : (i : Int) < (D.l.length : Int) := by omega
        obtain ⟨gl, rfl, hgl⟩ := HPL.out (by omega)
        have hiy : i < ys.length := by rw [HY.out]; exact hlt
        obtain ⟨y0, y1⟩ := HRL.out gl hgl i hlt hiy
        have hey := h.ey i hiy hlt
        have hst := sector_step D h.wf k i hk hlt
        have HST := Lib.hid hst
        clear hst
        generalize D.l[i] = q at *
        generalize ys[i] = y at *
        by_cases hq : q.1 = k
        · have hq' : ((q.1 : Int) == (k : Int)) = true := by rw [beq_iff_eq]; omega
          have HQ := Lib.hid hq
          clear hq
          go_wp2_with fail
          go_round
          case rel => exact ⟨i + 1, by omega, by go_num, by rw [HST.out, if_pos HQ.out]; exact hey⟩
          case measure => simp [intOf]; omega
        · have hq' : ((q.1 : Int) == (k : Int)) = false := by rw [beq_eq_false_iff_ne]; omega
          go_wp2_with fail
          go_round
          case rel => exact ⟨i + 1, by omega, by go_num, by rw [HST.out, if_neg hq]; exact ho⟩
          case measure => simp [intOf]; omega
      · obtain rfl : i = D.l.length := by omega
        rw [List.take_length] at ho
        have hsl : (sector D.now k).length = 256 := sector_length _ _ _ (by rw [h.wf.now]; exact Nat.le_of_eq h.wf.len.symm) hk
        have ho' : OwnB w B u6 (sector D.now k) := ho
        obtain ⟨a6, c6, e6, -, -, hb6⟩ := ho'.shape
        rw [hsl] at e6
        subst e6
        have HSL := Lib.hid hsl
        clear hsl ho
        go_wp2_with fail
        refine (rfull_n a6 (sector D.now k) _ _ HSL.out _ C hC hb6 (by rw [HSL.out]; decide)).mono ?_
        rintro e w' ⟨v, rfl, hv, hm, hn⟩
        go_wp2
        refine bodyPost_ret (results_tmp2 rfl _ _ _) rfl ?_
        exact ⟨_, rfl, hv.to (sect_full _ HSL.out), hm, hn⟩
  · have hw1 : D.wrong n = 1 := by unfold Dsk.wrong at hw ⊢; split <;> simp_all
    rw [hw1, if_neg (by decide)]
    by_cases h0 : n < 0
    · go_enter Try.func94, Try.ntmps94
      go_wp2
      refine bodyPost_ret (results_tmp2 rfl _ _ _) rfl ?_
      exact ⟨_, rfl, OwnB.nil _ _, Mod.refl _ _, by simp [Value.ownBlock]⟩
    · have h1 : (D.N : Int) ≤ n := by unfold Dsk.wrong at hw; split at hw <;> omega
      go_enter Try.func94, Try.ntmps94
      go_wp2
      refine bodyPost_ret (results_tmp2 rfl _ _ _) rfl ?_
      exact ⟨_, rfl, OwnB.nil _ _, Mod.refl _ _, by simp [Value.ownBlock]⟩
end
end Go.Proofs.Ytdinnkacilgmmaa
namespace Go.Proofs.Ytdinnkacilgmmaa
open Go.RowKit

theorem two_oneCell (n : Int) (a : Option Addr) (m c : Nat) : ∀ u ∈ [Value.int .i64 n, Value.slice a m c], u.oneCell' = true := by
  intro u hu
  simp only [List.mem_cons, List.not_mem_nil, or_false] at hu
  rcases hu with rfl | rfl <;> rfl

section
variable {w : World} {B p : Nat} {vs vl : Value} {xs ys : List Value} {D : Dsk}

theorem RV.still (h : RV w B p vs vl xs ys D) : Left (RDiskT B p D) (rfoot p vs vl xs ys) w w := ⟨Mod.refl _ _, _, ⟨vs, vl, xs, ys, h, rfl⟩, fun _ hk => .inl hk⟩

/-- memory behind Write -/
theorem rwrite_end {wa w3 : World} {v v' : Value} {x : Nat × List UInt8} {o : Obj} (h : RV w B p vs vl xs ys D) (hx : x.1 < D.N ∧ x.2.length = 256) (ma : Mod (fun _ => False) w wa) (hv : OwnB wa B v x.2) (hf : ∀ k, v.ownBlock = some k → w.heap.size ≤ k)
    (k1 : w3.ownsRow B 166 2 v' (D.l.length + 1) (lcells D.l ys ++ [.int .i64 (x.1 : Int), v])) (k2 : Mod (fun k => some k = vl.ownBlock) (wa.alloc o) w3) (k3 : v'.ownBlock = vl.ownBlock ∨ v'.ownBlock = some (wa.alloc o).heap.size) :
    Left (RDiskT B p { D with l := D.l ++ [x] }) (rfoot p vs vl xs ys) w (w3.setCell ⟨p, 1, none⟩ v') := by
  have m1 : Mod (fun _ => False) w (wa.alloc o) := ma.trans' (Mod.alloc _ _ _)
  have h1 := h.mod m1 (fun _ _ => id)
  have hne := h.ne
  have a3 := k2.obj h1.at_ (fun e => hne.2.1 e.symm)
  have a4 := setCell_block (i := 1) a3 v'
  have m3 : Mod (fun k => k = p) w3 (w3.setCell ⟨p, 1, none⟩ v') := Mod.setCell _ _ _ rfl
  have hpl := (h.lt p (.inl rfl)).2
  have keep : ∀ {u : Value} {l : List UInt8}, OwnB (wa.alloc o) B u l → OwnB (w3.setCell ⟨p, 1, none⟩ v') B u l := fun {u l} hu => by
    have hty : ∀ k, u.ownBlock = some k → some k ≠ vl.ownBlock := fun k hk e => by
      obtain ⟨c, hc⟩ := own_type hu hk
      exact own_ne h1.l hc (by decide) e.symm
    refine (hu.mod k2 hty).mod m3 (fun k hk e => ?_)
    subst e
    exact own_ne (hu.mod k2 hty) a3 (by decide) hk
  refine ⟨?_, _, ⟨vs, v', xs, ys ++ [v], ⟨?_, by simpa using a4, h.hp, ?_, h.hx, fun i hi => keep (h1.ex i hi), ?_, ?_, fun i hi h2 => ?_⟩, rfl⟩, ?_⟩
  · refine ((m1.mono (fun _ _ e => e.elim)).trans k2 (fun i _ e => .inr (.inr (.inl e.symm)))).trans m3 (fun i _ e => .inl e)
  · exact ⟨h.wf.len, h.wf.pos, h.wf.top, fun y hy => by
      rcases List.mem_append.1 hy with hy | hy
      · exact h.wf.l y hy
      · rw [List.mem_singleton.1 hy]; exact hx⟩
  · refine owns_mod (owns_mod h1.safe k2 (fun k hk e => hne.2.2.1 k e.symm hk)) m3 (fun k hk e => hne.1 (by rw [hk, e]))
  · show (w3.setCell ⟨p, 1, none⟩ v').ownsRow B 166 2 v' (D.l ++ [x]).length (lcells (D.l ++ [x]) (ys ++ [v]))
    rw [List.length_append, lcells_snoc _ _ h.hy]
    refine owns_mod k1 m3 (fun k hk e => ?_)
    subst e
    exact own_ne k1 a3 (by decide) hk
  · rw [List.length_append, List.length_append, h.hy]; rfl
  · by_cases e : i < ys.length
    · have e2 : i < D.l.length := by rw [← h.hy]; exact e
      simp only [List.getElem_append_left e, List.getElem_append_left e2]
      exact keep (h1.ey i e e2)
    · have hh := h.hy
      have : i = ys.length := by simp at hi; omega
      subst this
      simp only [List.getElem_append_right (Nat.le_refl _), List.getElem_append_right (show D.l.length ≤ ys.length by omega)]
      simpa [hh] using keep (hv.mod (Mod.alloc (fun _ => False) _ _) (fun _ _ => id))
  · rintro k (e | e | e | ⟨y, hy, e⟩ | ⟨y, hy, e⟩)
    · exact .inl (.inl e)
    · exact .inl (.inr (.inl e))
    · rcases k3 with e2 | e2
      · exact .inl (.inr (.inr (.inl (by rw [← e2]; exact e))))
      · rw [e2] at e
        cases e
        exact .inr m1.size
    · exact .inl (.inr (.inr (.inr (.inl ⟨y, hy, e⟩))))
    · rcases List.mem_append.1 hy with hy | hy
      · exact .inl (.inr (.inr (.inr (.inr ⟨y, hy, e⟩))))
      · rw [List.mem_singleton.1 hy] at e
        exact .inr (hf k e)

set_option maxRecDepth 100000 in
theorem rwrite_no (h : RV w B p vs vl xs ys D) (n : Int) (a : Option Addr) (b : List UInt8) (cap : Nat) (hm : b.length ≤ 140737488355328) (hw : D.why n b ≠ 0) :
    Calls Try.prog 90 #[.pointer (some ⟨p, 0, none⟩), .int .i64 n, .slice a b.length cap] w fun e w' => e = .returned (.int .i64 (D.why n b)) ∧ w = w' := by
  obtain ⟨c0, -, -, c3, c4⟩ := h.cell
  obtain ⟨as1, cs1, es, -, -, -⟩ := owns_shape h.safe
  subst es
  rw [h.hx] at c0
  have htop := h.wf.top
  by_cases hg : D.gone = true
  · have e : D.why n b = 21 := by simp [Dsk.why, hg]
    rw [e]
    rw [hg] at c4
    go_enter Try.func90, Try.ntmps90
    go_wp2
    go_ret
    exact ⟨rfl, rfl⟩
  have hg : D.gone = false := by simpa using hg
  rw [hg] at c4
  by_cases hn : n < 0
  · have e : D.why n b = 1 := by simp [Dsk.why, hg, hn]
    rw [e]
    go_enter Try.func90, Try.ntmps90
    go_wp2
    go_ret
    exact ⟨rfl, rfl⟩
  by_cases hn2 : (D.N : Int) ≤ n
  · have e : D.why n b = 1 := by simp [Dsk.why, hg, hn2]
    rw [e]
    go_enter Try.func90, Try.ntmps90
    go_wp2
    go_ret
    exact ⟨rfl, rfl⟩
  by_cases hl : 256 < b.length
  · have e : D.why n b = 3 := by simp [Dsk.why, hg, hn, hn2, hl]
    have hl' : (256 : Int) < (b.length : Int) := by omega
    rw [e]
    go_enter Try.func90, Try.ntmps90
    go_wp2
    go_ret
    exact ⟨rfl, rfl⟩
  by_cases hf : D.full = true
  · have e : D.why n b = 4 := by simp [Dsk.why, hg, hn, hn2, hl, hf]
    have hl' : (b.length : Int) ≤ 256 := by omega
    rw [e]
    rw [hf] at c3
    go_enter Try.func90, Try.ntmps90
    go_wp2
    go_ret
    exact ⟨rfl, rfl⟩
  · exact absurd (by simp [Dsk.why, hg, hn, hn2, hl, hf]) hw

set_option maxHeartbeats 1000000 in
set_option maxRecDepth 100000 in
theorem rwrite_ok (h : RV w B p vs vl xs ys D) (n : Nat) (a : Option Addr) (b : List UInt8) (cap : Nat) (hb : BytesAt w a b) (hg : D.gone = false) (hn : n < D.N) (hl : b.length ≤ 256) (hf : D.full = false) (hlim : D.l.length + 1 ≤ 1048576) :
    Calls Try.prog 90 #[.pointer (some ⟨p, 0, none⟩), .int .i64 (n : Int), .slice a b.length cap] w fun e w' => e = .returned (.int .i64 0) ∧ Left (RDiskT B p { D with l := D.l ++ [(n, sect b)] }) (rfoot p vs vl xs ys) w w' := by
  obtain ⟨c0, c1, -, c3, c4⟩ := h.cell
  obtain ⟨as1, cs1, es, -, -, -⟩ := owns_shape h.safe
  obtain ⟨al1, cl1, el, -, -, -⟩ := owns_shape h.l
  rw [es] at c0
  rw [h.hx] at c0
  rw [hg] at c4
  rw [hf] at c3
  have hn' : (n : Int) < (D.N : Int) := by omega
  have hn0 : ¬ (n : Int) < 0 := by omega
  have hl' : (b.length : Int) ≤ 256 := by omega
  have htop := h.wf.top
  have hHB := (h.lt p (.inl rfl)).1
  have hHL := (h.lt p (.inl rfl)).2
  have hsl := sect_length b hl
  have HH := Lib.hid h
  have HHX := Lib.hid h.hx
  have HES := Lib.hid es
  have HEL := Lib.hid el
  have HPV := Lib.hid (h.ne.2.1)
  have HAT := Lib.hid h.at_
  have HSL := Lib.hid hsl
  have HLIM := Lib.hid hlim
  clear h hg hf hsl hlim
  go_enter Try.func90, Try.ntmps90
  go_upto_region 9 with fail
  have md : Mod (fun _ => False) w w.drew := Mod.drew _ _
  rw [HEL.out] at c1
  have d1 : w.drew.cell? ⟨p, 1, none⟩ = some (.slice al1 D.l.length cl1) := by simpa using c1
  have hbd : BytesAt w.drew a b := hb.mod md (fun _ _ _ => id)
  have HBD := Lib.hid hbd
  clear hbd hb c0 c3 c4 es el
  refine wp_region_held_drew (S := fun _ => True) (by kernel_rfl) (trivial) (fun hHeld => ?_)
  refine wpAnyH_take (i := 0) (oi := ⟨some 33, .move (.tmp 0), 60, "ref.go:93", #[], none⟩) (v := ?_) rfl (by kernel_rfl) (by kernel_rfl) (by kernel_rfl) (fun _ _ _ h => h) (Or.inl ⟨by rfl, ?_⟩) (by assumption) ?_
  rotate_left
  · (intro w hSw; (try dsimp only at hSw); go_simp; try with_reducible rfl)
  simp only [Act.put, List.setIfInBounds_toArray, List.set_cons_zero, List.set_cons_succ]
  refine wpAnyH_take (i := 1) (oi := ⟨some 34, .move (.tmp 0), 60, "ref.go:93", #[], none⟩) (v := ?_) rfl (by kernel_rfl) (by kernel_rfl) (by kernel_rfl) (fun _ _ _ h => h) (Or.inl ⟨by rfl, ?_⟩) (by assumption) ?_
  rotate_left
  · (intro w hSw; (try dsimp only at hSw); go_simp; try with_reducible rfl)
  simp only [Act.put, List.setIfInBounds_toArray, List.set_cons_zero, List.set_cons_succ]
  refine wpAnyH_take (i := 2) (oi := ⟨some 35, .nilCheck (.tmp 34), 0, "ref.go:93", #[⟨1, .data⟩], none⟩) (v := ?_) rfl (by kernel_rfl) (by kernel_rfl) (by kernel_rfl) (fun _ _ _ h => h) (Or.inl ⟨by rfl, ?_⟩) (by assumption) ?_
  rotate_left
  · (intro w hSw; (try dsimp only at hSw); go_simp; try with_reducible rfl)
  simp only [Act.put, List.setIfInBounds_toArray, List.set_cons_zero, List.set_cons_succ]
  refine wpAnyH_take (i := 3) (oi := ⟨some 36, .fieldAddr 69 (.tmp 35) 1, 0, "ref.go:93", #[⟨2, .data⟩], none⟩) (v := ?_) rfl (by kernel_rfl) (by kernel_rfl) (by kernel_rfl) (fun _ _ _ h => h) (Or.inl ⟨by rfl, ?_⟩) (by assumption) ?_
  rotate_left
  · (intro w hSw; (try dsimp only at hSw); go_simp; try with_reducible rfl)
  simp only [Act.put, List.setIfInBounds_toArray, List.set_cons_zero, List.set_cons_succ]
  refine wpAnyH_take (i := 5) (oi := ⟨some 38, .move (.tmp 1), 3, "ref.go:93", #[], none⟩) (v := ?_) rfl (by kernel_rfl) (by kernel_rfl) (by kernel_rfl) (fun _ _ _ h => h) (Or.inl ⟨by rfl, ?_⟩) (by assumption) ?_
  rotate_left
  · (intro w hSw; (try dsimp only at hSw); go_simp; try with_reducible rfl)
  simp only [Act.put, List.setIfInBounds_toArray, List.set_cons_zero, List.set_cons_succ]
  refine wpAnyH_take (i := 6) (oi := ⟨some 39, .move (.tmp 2), 22, "ref.go:93", #[], none⟩) (v := ?_) rfl (by kernel_rfl) (by kernel_rfl) (by kernel_rfl) (fun _ _ _ h => h) (Or.inl ⟨by rfl, ?_⟩) (by assumption) ?_
  rotate_left
  · (intro w hSw; (try dsimp only at hSw); go_simp; try with_reducible rfl)
  simp only [Act.put, List.setIfInBounds_toArray, List.set_cons_zero, List.set_cons_succ]
  refine wpAnyH_ready (rs := [4, 7]) (by kernel_rfl) (by simp) ?_
  refine AllReadyH.cons (o := ⟨some 37, .load 67 (.tmp 36), 67, "ref.go:93", #[⟨3, .data⟩], none⟩) rfl (fun K hK => ?_) (AllReadyH.cons (o := ⟨some 40, .call { callee := .value (.func 89), args := #[.tmp 39], argTypes := #[22] }, 22, "ref.go:93", #[⟨6, .data⟩], none⟩) rfl (fun K hK => ?_) AllReadyH.nil)
  ·
    go_simp
    try simp only []
    refine hK.out _ _ trivial (fun hHeld => ?_)
    clear hK K
    try simp only [Act.put, List.setIfInBounds_toArray, List.set_cons_zero, List.set_cons_succ]
    refine wpAnyH_ready (rs := [7]) (by kernel_rfl) (by simp) ?_
    refine AllReadyH.cons (o := ⟨some 40, .call { callee := .value (.func 89), args := #[.tmp 39], argTypes := #[22] }, 22, "ref.go:93", #[⟨6, .data⟩], none⟩) rfl (fun K hK => ?_) AllReadyH.nil
    go_simp
    refine (rfull_any a b cap w.drew B (by simp; omega) HBD.out hl).mono ?_
    rintro e wa ⟨v, rfl, hv, hmv, hnv⟩
    have hca : wa.cell? ⟨p, 1, none⟩ = some (.slice al1 D.l.length cl1) := hmv.cell' d1 id
    have hcb : ∀ X, (wa.alloc X).cell? ⟨p, 1, none⟩ = some (.slice al1 D.l.length cl1) := fun X => (Mod.alloc (fun _ => False) wa X).cell' hca id
    obtain ⟨av, cv, ev, -, -, -⟩ := hv.shape
    rw [HSL.out] at ev
    subst ev
    try simp only []
    refine hK.out _ _ (trivial) (fun _ => ?_)
    clear hK K
    try simp only [Act.put, List.setIfInBounds_toArray, List.set_cons_zero, List.set_cons_succ]
    refine wpAnyH_take (i := 8) (oi := ⟨some 41, .build 166 #[(0, .tmp 38), (1, .tmp 40)], 166, "ref.go:93", #[⟨5, .data⟩, ⟨7, .data⟩], none⟩) (v := ?_) rfl (by kernel_rfl) (by kernel_rfl) (by kernel_rfl) (fun _ _ _ h => h) (Or.inl ⟨by rfl, ?_⟩) (by assumption) ?_
    rotate_left
    · (intro w hSw; (try dsimp only at hSw); go_simp; try with_reducible rfl)
    simp only [Act.put, List.setIfInBounds_toArray, List.set_cons_zero, List.set_cons_succ]
    refine wpAnyH_ready (rs := [9]) (by kernel_rfl) (by simp) ?_
    refine AllReadyH.cons (o := ⟨some 42, .buildSlice 67 1 #[(0, .tmp 41)], 67, "ref.go:93", #[⟨8, .data⟩], none⟩) rfl (fun K hK => ?_) AllReadyH.nil
    go_simp
    try simp only []
    refine hK.out _ _ trivial (fun hHeld => ?_)
    clear hK K
    try simp only [Act.put, List.setIfInBounds_toArray, List.set_cons_zero, List.set_cons_succ]
    refine wpAnyH_ready (rs := [10]) (by kernel_rfl) (by simp) ?_
    refine AllReadyH.cons (o := ⟨some 43, .call { callee := .builtin .append, args := #[.tmp 37, .tmp 42], argTypes := #[67, 67] }, 67, "ref.go:93", #[⟨4, .data⟩, ⟨9, .data⟩, ⟨7, .chain⟩], none⟩) rfl (fun K hK => ?_) AllReadyH.nil
    clear hcb hca
    refine appR_step 67 166 _ 2 32 Try.underlying67 info166 rfl (by decide) (by decide) rfl _ _ rfl B (.slice al1 D.l.length cl1) D.l.length (lcells D.l ys) rfl (by rw [← HEL.out]; exact owns_mod HH.out.l (md.trans' (hmv.trans' (Mod.alloc _ _ _))) (fun _ _ => id)) ⟨wa.heap.size, 0, none⟩ 1 1 [.int .i64 (n : Int), .slice av 256 cv] rfl rfl (cells_new wa _ 166) (two_oneCell _ _ _ _) HLIM.out (by have := hmv.size; simp at this ⊢; omega) ?_
    intro v' w3 k1 k2 k3
    obtain ⟨a3, c3, e3, -, -, -⟩ := owns_shape k1
    subst e3
    rw [← HEL.out] at k2 k3
    have hat3 := k2.obj ((md.trans' (hmv.trans' (Mod.alloc _ _ _))).obj HAT.out id) (fun e => HPV.out e.symm)
    have d0 := cell_of_row w3 p 1 _ 69 (0, 0) hat3
    have t0 := thaw_of (i := 1) hat3
    have HK1 := Lib.hid k1
    have HK2 := Lib.hid k2
    have HK3 := Lib.hid k3
    have HV := Lib.hid hv
    clear k1 k2 k3 hat3 hv
    simp only [Act.put, List.setIfInBounds_toArray, List.set_cons_zero, List.set_cons_succ]
    refine hK.out _ _ (trivial) (fun _ => ?_)
    clear hK K
    try simp only [Act.put, List.setIfInBounds_toArray, List.set_cons_zero, List.set_cons_succ]
    refine wpAnyH_take (i := 11) (oi := ⟨some 44, .nilCheck (.tmp 33), 0, "ref.go:93", #[⟨0, .data⟩, ⟨0, .phase⟩, ⟨1, .phase⟩, ⟨2, .phase⟩, ⟨3, .phase⟩, ⟨4, .phase⟩, ⟨5, .phase⟩, ⟨6, .phase⟩, ⟨7, .phase⟩, ⟨8, .phase⟩, ⟨9, .phase⟩, ⟨10, .phase⟩], none⟩) (v := ?_) rfl (by kernel_rfl) (by kernel_rfl) (by kernel_rfl) (fun _ _ _ h => h) (Or.inl ⟨by rfl, ?_⟩) (by assumption) ?_
    rotate_left
    · (intro w hSw; (try dsimp only at hSw); go_simp; try with_reducible rfl)
    simp only [Act.put, List.setIfInBounds_toArray, List.set_cons_zero, List.set_cons_succ]
    refine wpAnyH_take (i := 12) (oi := ⟨some 45, .fieldAddr 69 (.tmp 44) 1, 0, "ref.go:93", #[⟨11, .data⟩, ⟨0, .phase⟩, ⟨1, .phase⟩, ⟨2, .phase⟩, ⟨3, .phase⟩, ⟨4, .phase⟩, ⟨5, .phase⟩, ⟨6, .phase⟩, ⟨7, .phase⟩, ⟨8, .phase⟩, ⟨9, .phase⟩, ⟨10, .phase⟩], none⟩) (v := ?_) rfl (by kernel_rfl) (by kernel_rfl) (by kernel_rfl) (fun _ _ _ h => h) (Or.inl ⟨by rfl, ?_⟩) (by assumption) ?_
    rotate_left
    · (intro w hSw; (try dsimp only at hSw); go_simp; try with_reducible rfl)
    simp only [Act.put, List.setIfInBounds_toArray, List.set_cons_zero, List.set_cons_succ]
    refine wpAnyH_ready (rs := [13]) (by kernel_rfl) (by simp) ?_
    refine AllReadyH.cons (o := ⟨none, .store 67 (.tmp 45) (.tmp 43), 0, "ref.go:93", #[⟨12, .data⟩, ⟨10, .data⟩, ⟨10, .chain⟩, ⟨0, .phase⟩, ⟨1, .phase⟩, ⟨2, .phase⟩, ⟨3, .phase⟩, ⟨4, .phase⟩, ⟨5, .phase⟩, ⟨6, .phase⟩, ⟨7, .phase⟩, ⟨8, .phase⟩, ⟨9, .phase⟩, ⟨10, .phase⟩], none⟩) rfl (fun K hK => ?_) AllReadyH.nil
    go_simp
    try simp only []
    refine hK.out _ _ trivial (fun hHeld => ?_)
    clear hK K
    try simp only [Act.put, List.setIfInBounds_toArray, List.set_cons_zero, List.set_cons_succ]
    refine wpAnyH_done (by kernel_rfl) ?_ _
    go_wp2
    go_ret
    exact ⟨rfl, rwrite_end HH.out ⟨hn, HSL.out⟩ (md.trans' hmv) HV.out (fun k hk => by have := hnv k hk; simpa using this) HK1.out HK2.out HK3.out⟩
  ·
    go_simp
    refine (rfull_any a b cap w.drew B (by simp; omega) HBD.out hl).mono ?_
    rintro e wa ⟨v, rfl, hv, hmv, hnv⟩
    have hca : wa.cell? ⟨p, 1, none⟩ = some (.slice al1 D.l.length cl1) := hmv.cell' d1 id
    have hcb : ∀ X, (wa.alloc X).cell? ⟨p, 1, none⟩ = some (.slice al1 D.l.length cl1) := fun X => (Mod.alloc (fun _ => False) wa X).cell' hca id
    obtain ⟨av, cv, ev, -, -, -⟩ := hv.shape
    rw [HSL.out] at ev
    subst ev
    try simp only []
    refine hK.out _ _ (trivial) (fun _ => ?_)
    clear hK K
    try simp only [Act.put, List.setIfInBounds_toArray, List.set_cons_zero, List.set_cons_succ]
    refine wpAnyH_take (i := 8) (oi := ⟨some 41, .build 166 #[(0, .tmp 38), (1, .tmp 40)], 166, "ref.go:93", #[⟨5, .data⟩, ⟨7, .data⟩], none⟩) (v := ?_) rfl (by kernel_rfl) (by kernel_rfl) (by kernel_rfl) (fun _ _ _ h => h) (Or.inl ⟨by rfl, ?_⟩) (by assumption) ?_
    rotate_left
    · (intro w hSw; (try dsimp only at hSw); go_simp; try with_reducible rfl)
    simp only [Act.put, List.setIfInBounds_toArray, List.set_cons_zero, List.set_cons_succ]
    refine wpAnyH_ready (rs := [4, 9]) (by kernel_rfl) (by simp) ?_
    refine AllReadyH.cons (o := ⟨some 37, .load 67 (.tmp 36), 67, "ref.go:93", #[⟨3, .data⟩], none⟩) rfl (fun K hK => ?_) (AllReadyH.cons (o := ⟨some 42, .buildSlice 67 1 #[(0, .tmp 41)], 67, "ref.go:93", #[⟨8, .data⟩], none⟩) rfl (fun K hK => ?_) AllReadyH.nil)
    ·
      go_simp
      try simp only []
      refine hK.out _ _ trivial (fun hHeld => ?_)
      clear hK K
      try simp only [Act.put, List.setIfInBounds_toArray, List.set_cons_zero, List.set_cons_succ]
      refine wpAnyH_ready (rs := [9]) (by kernel_rfl) (by simp) ?_
      refine AllReadyH.cons (o := ⟨some 42, .buildSlice 67 1 #[(0, .tmp 41)], 67, "ref.go:93", #[⟨8, .data⟩], none⟩) rfl (fun K hK => ?_) AllReadyH.nil
      go_simp
      try simp only []
      refine hK.out _ _ trivial (fun hHeld => ?_)
      clear hK K
      try simp only [Act.put, List.setIfInBounds_toArray, List.set_cons_zero, List.set_cons_succ]
      refine wpAnyH_ready (rs := [10]) (by kernel_rfl) (by simp) ?_
      refine AllReadyH.cons (o := ⟨some 43, .call { callee := .builtin .append, args := #[.tmp 37, .tmp 42], argTypes := #[67, 67] }, 67, "ref.go:93", #[⟨4, .data⟩, ⟨9, .data⟩, ⟨7, .chain⟩], none⟩) rfl (fun K hK => ?_) AllReadyH.nil
      clear hcb hca
      refine appR_step 67 166 _ 2 32 Try.underlying67 info166 rfl (by decide) (by decide) rfl _ _ rfl B (.slice al1 D.l.length cl1) D.l.length (lcells D.l ys) rfl (by rw [← HEL.out]; exact owns_mod HH.out.l (md.trans' (hmv.trans' (Mod.alloc _ _ _))) (fun _ _ => id)) ⟨wa.heap.size, 0, none⟩ 1 1 [.int .i64 (n : Int), .slice av 256 cv] rfl rfl (cells_new wa _ 166) (two_oneCell _ _ _ _) HLIM.out (by have := hmv.size; simp at this ⊢; omega) ?_
      intro v' w3 k1 k2 k3
      obtain ⟨a3, c3, e3, -, -, -⟩ := owns_shape k1
      subst e3
      rw [← HEL.out] at k2 k3
      have hat3 := k2.obj ((md.trans' (hmv.trans' (Mod.alloc _ _ _))).obj HAT.out id) (fun e => HPV.out e.symm)
      have d0 := cell_of_row w3 p 1 _ 69 (0, 0) hat3
      have t0 := thaw_of (i := 1) hat3
      have HK1 := Lib.hid k1
      have HK2 := Lib.hid k2
      have HK3 := Lib.hid k3
      have HV := Lib.hid hv
      clear k1 k2 k3 hat3 hv
      simp only [Act.put, List.setIfInBounds_toArray, List.set_cons_zero, List.set_cons_succ]
      refine hK.out _ _ (trivial) (fun _ => ?_)
      clear hK K
      try simp only [Act.put, List.setIfInBounds_toArray, List.set_cons_zero, List.set_cons_succ]
      refine wpAnyH_take (i := 11) (oi := ⟨some 44, .nilCheck (.tmp 33), 0, "ref.go:93", #[⟨0, .data⟩, ⟨0, .phase⟩, ⟨1, .phase⟩, ⟨2, .phase⟩, ⟨3, .phase⟩, ⟨4, .phase⟩, ⟨5, .phase⟩, ⟨6, .phase⟩, ⟨7, .phase⟩, ⟨8, .phase⟩, ⟨9, .phase⟩, ⟨10, .phase⟩], none⟩) (v := ?_) rfl (by kernel_rfl) (by kernel_rfl) (by kernel_rfl) (fun _ _ _ h => h) (Or.inl ⟨by rfl, ?_⟩) (by assumption) ?_
      rotate_left
      · (intro w hSw; (try dsimp only at hSw); go_simp; try with_reducible rfl)
      simp only [Act.put, List.setIfInBounds_toArray, List.set_cons_zero, List.set_cons_succ]
      refine wpAnyH_take (i := 12) (oi := ⟨some 45, .fieldAddr 69 (.tmp 44) 1, 0, "ref.go:93", #[⟨11, .data⟩, ⟨0, .phase⟩, ⟨1, .phase⟩, ⟨2, .phase⟩, ⟨3, .phase⟩, ⟨4, .phase⟩, ⟨5, .phase⟩, ⟨6, .phase⟩, ⟨7, .phase⟩, ⟨8, .phase⟩, ⟨9, .phase⟩, ⟨10, .phase⟩], none⟩) (v := ?_) rfl (by kernel_rfl) (by kernel_rfl) (by kernel_rfl) (fun _ _ _ h => h) (Or.inl ⟨by rfl, ?_⟩) (by assumption) ?_
      rotate_left
      · (intro w hSw; (try dsimp only at hSw); go_simp; try with_reducible rfl)
      simp only [Act.put, List.setIfInBounds_toArray, List.set_cons_zero, List.set_cons_succ]
      refine wpAnyH_ready (rs := [13]) (by kernel_rfl) (by simp) ?_
      refine AllReadyH.cons (o := ⟨none, .store 67 (.tmp 45) (.tmp 43), 0, "ref.go:93", #[⟨12, .data⟩, ⟨10, .data⟩, ⟨10, .chain⟩, ⟨0, .phase⟩, ⟨1, .phase⟩, ⟨2, .phase⟩, ⟨3, .phase⟩, ⟨4, .phase⟩, ⟨5, .phase⟩, ⟨6, .phase⟩, ⟨7, .phase⟩, ⟨8, .phase⟩, ⟨9, .phase⟩, ⟨10, .phase⟩], none⟩) rfl (fun K hK => ?_) AllReadyH.nil
      go_simp
      try simp only []
      refine hK.out _ _ trivial (fun hHeld => ?_)
      clear hK K
      try simp only [Act.put, List.setIfInBounds_toArray, List.set_cons_zero, List.set_cons_succ]
      refine wpAnyH_done (by kernel_rfl) ?_ _
      go_wp2
      go_ret
      exact ⟨rfl, rwrite_end HH.out ⟨hn, HSL.out⟩ (md.trans' hmv) HV.out (fun k hk => by have := hnv k hk; simpa using this) HK1.out HK2.out HK3.out⟩
    ·
      go_simp
      try simp only []
      refine hK.out _ _ trivial (fun hHeld => ?_)
      clear hK K
      try simp only [Act.put, List.setIfInBounds_toArray, List.set_cons_zero, List.set_cons_succ]
      refine wpAnyH_ready (rs := [4]) (by kernel_rfl) (by simp) ?_
      refine AllReadyH.cons (o := ⟨some 37, .load 67 (.tmp 36), 67, "ref.go:93", #[⟨3, .data⟩], none⟩) rfl (fun K hK => ?_) AllReadyH.nil
      go_simp
      try simp only []
      refine hK.out _ _ trivial (fun hHeld => ?_)
      clear hK K
      try simp only [Act.put, List.setIfInBounds_toArray, List.set_cons_zero, List.set_cons_succ]
      refine wpAnyH_ready (rs := [10]) (by kernel_rfl) (by simp) ?_
      refine AllReadyH.cons (o := ⟨some 43, .call { callee := .builtin .append, args := #[.tmp 37, .tmp 42], argTypes := #[67, 67] }, 67, "ref.go:93", #[⟨4, .data⟩, ⟨9, .data⟩, ⟨7, .chain⟩], none⟩) rfl (fun K hK => ?_) AllReadyH.nil
      clear hcb hca
      refine appR_step 67 166 _ 2 32 Try.underlying67 info166 rfl (by decide) (by decide) rfl _ _ rfl B (.slice al1 D.l.length cl1) D.l.length (lcells D.l ys) rfl (by rw [← HEL.out]; exact owns_mod HH.out.l (md.trans' (hmv.trans' (Mod.alloc _ _ _))) (fun _ _ => id)) ⟨wa.heap.size, 0, none⟩ 1 1 [.int .i64 (n : Int), .slice av 256 cv] rfl rfl (cells_new wa _ 166) (two_oneCell _ _ _ _) HLIM.out (by have := hmv.size; simp at this ⊢; omega) ?_
      intro v' w3 k1 k2 k3
      obtain ⟨a3, c3, e3, -, -, -⟩ := owns_shape k1
      subst e3
      rw [← HEL.out] at k2 k3
      have hat3 := k2.obj ((md.trans' (hmv.trans' (Mod.alloc _ _ _))).obj HAT.out id) (fun e => HPV.out e.symm)
      have d0 := cell_of_row w3 p 1 _ 69 (0, 0) hat3
      have t0 := thaw_of (i := 1) hat3
      have HK1 := Lib.hid k1
      have HK2 := Lib.hid k2
      have HK3 := Lib.hid k3
      have HV := Lib.hid hv
      clear k1 k2 k3 hat3 hv
      simp only [Act.put, List.setIfInBounds_toArray, List.set_cons_zero, List.set_cons_succ]
      refine hK.out _ _ (trivial) (fun _ => ?_)
      clear hK K
      try simp only [Act.put, List.setIfInBounds_toArray, List.set_cons_zero, List.set_cons_succ]
      refine wpAnyH_take (i := 11) (oi := ⟨some 44, .nilCheck (.tmp 33), 0, "ref.go:93", #[⟨0, .data⟩, ⟨0, .phase⟩, ⟨1, .phase⟩, ⟨2, .phase⟩, ⟨3, .phase⟩, ⟨4, .phase⟩, ⟨5, .phase⟩, ⟨6, .phase⟩, ⟨7, .phase⟩, ⟨8, .phase⟩, ⟨9, .phase⟩, ⟨10, .phase⟩], none⟩) (v := ?_) rfl (by kernel_rfl) (by kernel_rfl) (by kernel_rfl) (fun _ _ _ h => h) (Or.inl ⟨by rfl, ?_⟩) (by assumption) ?_
      rotate_left
      · (intro w hSw; (try dsimp only at hSw); go_simp; try with_reducible rfl)
      simp only [Act.put, List.setIfInBounds_toArray, List.set_cons_zero, List.set_cons_succ]
      refine wpAnyH_take (i := 12) (oi := ⟨some 45, .fieldAddr 69 (.tmp 44) 1, 0, "ref.go:93", #[⟨11, .data⟩, ⟨0, .phase⟩, ⟨1, .phase⟩, ⟨2, .phase⟩, ⟨3, .phase⟩, ⟨4, .phase⟩, ⟨5, .phase⟩, ⟨6, .phase⟩, ⟨7, .phase⟩, ⟨8, .phase⟩, ⟨9, .phase⟩, ⟨10, .phase⟩], none⟩) (v := ?_) rfl (by kernel_rfl) (by kernel_rfl) (by kernel_rfl) (fun _ _ _ h => h) (Or.inl ⟨by rfl, ?_⟩) (by assumption) ?_
      rotate_left
      · (intro w hSw; (try dsimp only at hSw); go_simp; try with_reducible rfl)
      simp only [Act.put, List.setIfInBounds_toArray, List.set_cons_zero, List.set_cons_succ]
      refine wpAnyH_ready (rs := [13]) (by kernel_rfl) (by simp) ?_
      refine AllReadyH.cons (o := ⟨none, .store 67 (.tmp 45) (.tmp 43), 0, "ref.go:93", #[⟨12, .data⟩, ⟨10, .data⟩, ⟨10, .chain⟩, ⟨0, .phase⟩, ⟨1, .phase⟩, ⟨2, .phase⟩, ⟨3, .phase⟩, ⟨4, .phase⟩, ⟨5, .phase⟩, ⟨6, .phase⟩, ⟨7, .phase⟩, ⟨8, .phase⟩, ⟨9, .phase⟩, ⟨10, .phase⟩], none⟩) rfl (fun K hK => ?_) AllReadyH.nil
      go_simp
      try simp only []
      refine hK.out _ _ trivial (fun hHeld => ?_)
      clear hK K
      try simp only [Act.put, List.setIfInBounds_toArray, List.set_cons_zero, List.set_cons_succ]
      refine wpAnyH_done (by kernel_rfl) ?_ _
      go_wp2
      go_ret
      exact ⟨rfl, rwrite_end HH.out ⟨hn, HSL.out⟩ (md.trans' hmv) HV.out (fun k hk => by have := hnv k hk; simpa using this) HK1.out HK2.out HK3.out⟩
end
end Go.Proofs.Ytdinnkacilgmmaa
namespace Go.Proofs.Ytdinnkacilgmmaa
open Go.RowKit

section
variable {w : World} {B p : Nat} {vs vl : Value} {xs ys : List Value} {D : Dsk}

/-- one flag of the disk's own block is written -/
theorem RV.flag (h : RV w B p vs vl xs ys D) (i : Nat) (v : Value) (D' : Dsk) (hs : D'.safe = D.safe) (hl : D'.l = D.l)
    (hc : #[vs, vl, .bool D.bad, .bool D.full, .bool D.gone].setIfInBounds i v = #[vs, vl, .bool D'.bad, .bool D'.full, .bool D'.gone]) :
    RV (w.setCell ⟨p, i, none⟩ v) B p vs vl xs ys D' ∧ Mod (rfoot p vs vl xs ys) w (w.setCell ⟨p, i, none⟩ v) := by
  have hm : Mod (fun k => k = p) w (w.setCell ⟨p, i, none⟩ v) := Mod.setCell w _ v rfl
  have hne := h.ne
  obtain ⟨s, l, b, f, g⟩ := D'
  subst hs hl
  refine ⟨⟨⟨h.wf.len, h.wf.pos, h.wf.top, h.wf.l⟩, ?_, h.hp, owns_mod h.safe hm (fun k hk e => hne.1 (by rw [hk, e])), h.hx, fun j hj => (h.ex j hj).mod hm (fun k hk e => (hne.2.2.2.1 j hj k hk).1 e),
    owns_mod h.l hm (fun k hk e => hne.2.1 (by rw [hk, e])), h.hy, fun j hj h2 => (h.ey j hj h2).mod hm (fun k hk e => (hne.2.2.2.2 j hj k hk).1 e)⟩, Mod.setCell w _ v (.inl rfl)⟩
  rw [setCell_block h.at_, hc]

/-- a sector's row is put in place of another -/
theorem RV.put (h : RV w B p vs vl xs ys D) (n : Nat) (hn : n < D.N) (v : Value) (b s' : List UInt8) (hv : OwnB w B v b) (g : Nat) (hg : vs.ownBlock = some g) (hs : s'.length = D.safe.length) (hsame : sector s' n = b) (hoth : ∀ m, m ≠ n → sector s' m = sector D.safe m) :
    RV (w.setCell ⟨g, n, none⟩ v) B p vs vl (xs.set n v) ys { D with safe := s' } ∧ Mod (fun k => k = g) w (w.setCell ⟨g, n, none⟩ v) := by
  have hm : Mod (fun k => k = g) w (w.setCell ⟨g, n, none⟩ v) := Mod.setCell w _ v rfl
  have hne := h.ne
  have hN : ({ D with safe := s' } : Dsk).N = D.N := by unfold Dsk.N; rw [hs]
  have hpg : p ≠ g := fun e => hne.1 (by rw [hg, e])
  have hvg : ∀ k, v.ownBlock = some k → k ≠ g := fun k hk e => by
    obtain ⟨c, hc⟩ := own_type hv hk
    exact own_ne h.safe hc (by decide) (by rw [hg, e])
  refine ⟨⟨⟨?_, ?_, ?_, ?_⟩, hm.obj h.at_ hpg, h.hp, ?_, ?_, fun i hi => ?_, owns_mod h.l hm (fun k hk e => hne.2.2.1 k hk (by rw [hg, e])), h.hy, fun j hj h2 => (h.ey j hj h2).mod hm (fun k hk e => (hne.2.2.2.2 j hj k hk).2.1 (by rw [hg, e]))⟩, hm⟩
  · show s'.length = _
    rw [hN, hs]; exact h.wf.len
  · rw [hN]; exact h.wf.pos
  · rw [hN]; exact h.wf.top
  · rw [hN]; exact h.wf.l
  · have hsa := h.safe
    rcases hsa.2 with ⟨rfl, h0⟩ | ⟨g', cap, cur, rfl, -⟩
    · simp [Value.ownBlock] at hg
    · simp [Value.ownBlock] at hg
      subst hg
      have := (World.ownsRow.stored hsa n v).1
      rw [List.length_set]
      exact this
  · rw [List.length_set, hN]; exact h.hx
  · by_cases e : i = n
    · subst e
      rw [List.getElem_set_self, show sector ({ D with safe := s' } : Dsk).safe i = b from hsame]
      exact hv.mod hm hvg
    · rw [List.getElem_set_ne (fun e' => e e'.symm), show sector ({ D with safe := s' } : Dsk).safe i = sector D.safe i from hoth i e]
      exact (h.ex i (by simpa using hi)).mod hm (fun k hk e => (hne.2.2.2.1 i (by simpa using hi) k hk).2.1 (by rw [hg, e]))

/-- no write is left -/
theorem RV.clean (h : RV w B p vs vl xs ys D) : RV (w.setCell ⟨p, 1, none⟩ (.slice none 0 0)) B p vs (.slice none 0 0) xs [] { D with l := [] } ∧ Mod (fun k => k = p) w (w.setCell ⟨p, 1, none⟩ (.slice none 0 0)) := by
  have hm : Mod (fun k => k = p) w (w.setCell ⟨p, 1, none⟩ (.slice none 0 0)) := Mod.setCell w _ _ rfl
  have hne := h.ne
  refine ⟨⟨⟨h.wf.len, h.wf.pos, h.wf.top, fun x hx => by cases hx⟩, ?_, h.hp, owns_mod h.safe hm (fun k hk e => hne.1 (by rw [hk, e])), h.hx, fun j hj => (h.ex j hj).mod hm (fun k hk e => (hne.2.2.2.1 j hj k hk).1 e), World.ownsRow_nil _ _ _ _, rfl, fun i hi => by simp at hi⟩, hm⟩
  rw [setCell_block h.at_]; rfl

set_option maxHeartbeats 1000000 in
set_option maxRecDepth 100000 in
theorem rsync_any (h : RV w B p vs vl xs ys D) (hlim : D.l.length ≤ 1048576) :
    Calls Try.prog 91 #[.pointer (some ⟨p, 0, none⟩)] w fun e w' => e = .returned (.int .i64 D.whySync) ∧ Left (RDiskT B p D.sync) (rfoot p vs vl xs ys) w w' := by
  obtain ⟨c0, c1, c2, c3, c4⟩ := h.cell
  have f4 := thaw_of (i := 4) h.at_
  by_cases hg : D.gone = true
  · have e1 : D.whySync = 21 := by simp [Dsk.whySync, hg]
    have e2 : D.sync = D := by simp [Dsk.sync, hg]
    rw [e1, e2]
    rw [hg] at c4
    go_enter Try.func91, Try.ntmps91
    go_wp2
    go_ret
    exact ⟨rfl, h.still⟩
  have hg : D.gone = false := by simpa using hg
  by_cases hb : D.bad = true
  · have e1 : D.whySync = 20 := by simp [Dsk.whySync, hg, hb]
    have e2 : D.sync = { D with gone := true } := by simp [Dsk.sync, hg, hb]
    rw [e1, e2]
    rw [hg] at c4
    rw [hb] at c2
    have hfl := h.flag 4 (.bool true) { D with gone := true } rfl rfl rfl
    go_enter Try.func91, Try.ntmps91
    go_wp2
    go_ret
    exact ⟨rfl, hfl.2, _, ⟨_, _, _, _, hfl.1, rfl⟩, fun _ hk => .inl hk⟩
  have hb : D.bad = false := by simpa using hb
  have e1 : D.whySync = 0 := by simp [Dsk.whySync, hg, hb]
  have e2 : D.sync = { D with safe := D.now, l := [] } := by simp [Dsk.sync, hg, hb]
  rw [e1, e2]
  rw [hg] at c4
  rw [hb] at c2
  obtain ⟨as1, cs1, es, -, -, hpos⟩ := owns_shape h.safe
  obtain ⟨gs, rfl, hgs⟩ := hpos (by have := h.wf.pos; have := h.hx; omega)
  obtain ⟨al1, cl1, el, -, -, hposl⟩ := owns_shape h.l
  have hmx := h.wf.top
  have HES := Lib.hid es
  have HEL := Lib.hid el
  have HPL := Lib.hid hposl
  have HH := Lib.hid h
  have HX := Lib.hid h.hx
  have HY := Lib.hid h.hy
  have HGS := Lib.hid hgs
  rw [es] at c0
  rw [el] at c1
  have HG := Lib.hid hg
  have HB := Lib.hid hb
  clear e1 e2 hg hb hposl es el hgs hpos
  go_enter Try.func91, Try.ntmps91
  go_wp2_with fail
  go_loopw [3] (fun v3 wr => ∃ (i : Nat) (xs' : List Value), i ≤ D.l.length ∧ v3 = .int .i64 (i : Int) ∧ RV wr B p vs vl xs' ys { D with safe := layAll D.safe (D.l.take i) } ∧ Mod (rfoot p vs vl xs ys) w wr ∧ ∀ x ∈ xs', x ∈ xs ∨ x ∈ ys) (fun v3 _ => D.l.length - (intOf v3).toNat)
  case atStart => exact ⟨0, xs, Nat.zero_le _, rfl, by rw [List.take_zero]; exact h, Mod.refl _ _, fun x hx => .inl hx⟩
  case round =>
    obtain ⟨i, xs', hi, rfl, hR, hm, hsub⟩ := hrel
    obtain ⟨d0, d1, -⟩ := hR.cell
    have hxl := hR.hx
    have hNN : ({ D with safe := layAll D.safe (D.l.take i) } : Dsk).N = D.N := by
      unfold Dsk.N
      rw [show ({ D with safe := layAll D.safe (D.l.take i) } : Dsk).safe = layAll D.safe (D.l.take i) from rfl, layAll_length _ _ (fun x hx => h.wf.fit x (List.mem_of_mem_take hx))]
    rw [HES.out] at d0
    rw [HEL.out] at d1
    rw [HX.out] at d0
    by_cases hlt : i < D.l.length
    · have hlt' : (i : Int) < (D.l.length : Int) := by omega
      obtain ⟨gl, rfl, hgl⟩ := HPL.out (by omega)
      have hiy : i < ys.length := by rw [HY.out]; exact hlt
      obtain ⟨y0, y1⟩ := hR.rows.2 gl hgl i hlt hiy
      have hxn := h.wf.l _ (List.getElem_mem hlt)
      have hey := hR.ey i hiy hlt
      have hnx : D.l[i].1 < xs'.length := by rw [hxl, hNN]; exact hxn.1
      obtain ⟨z0, z1⟩ := hR.rows.1 gs HGS.out _ hnx
      have hls : (layAll D.safe (D.l.take i)).length = D.safe.length := layAll_length _ _ (fun x hx => h.wf.fit x (List.mem_of_mem_take hx))
      have hfit := h.wf.fit _ (List.getElem_mem hlt)
      have hput := hR.put D.l[i].1 (by rw [hNN]; exact hxn.1) ys[i] D.l[i].2 (layAll D.safe (D.l.take (i + 1))) hey gs HGS.out
        (by rw [show ({ D with safe := layAll D.safe (D.l.take i) } : Dsk).safe = layAll D.safe (D.l.take i) from rfl, hls]; exact layAll_length _ _ (fun x hx => h.wf.fit x (List.mem_of_mem_take hx)))
        (by rw [List.take_succ_eq_append_getElem hlt, layAll_snoc]; exact sector_lay_at _ _ _ (by rw [hls]; rw [hxn.2] at hfit; exact hfit) hxn.2)
        (fun m hm => by rw [List.take_succ_eq_append_getElem hlt, layAll_snoc]; exact sector_lay_off _ _ _ _ (by rw [hls]; exact hfit) (by rw [hxn.2]; exact Nat.le_refl _) hm)
      obtain ⟨hp1, hp2⟩ := hput
      have hmem : ys[i] ∈ ys := List.getElem_mem hiy
      obtain ⟨ay, cy, ey, -, -, -⟩ := hey.shape
      have hnI : ((D.l[i].1 : Nat) : Int) < (D.N : Int) := by have := hxn.1; omega
      have hpg : p ≠ gs := fun e => h.ne.1 (by rw [HGS.out, e])
      have hlg : gl ≠ gs := fun e => h.ne.2.2.1 gl hgl (by rw [HGS.out, e])
      have HP1 := Lib.hid hp1
      have HP2 := Lib.hid hp2
      have HMEM := Lib.hid hmem
      have HSUB := Lib.hid hsub
      have HNE := Lib.hid hpg
      have HNE2 := Lib.hid hlg
      have HEY := Lib.hid ey
      rw [ey] at y1
      clear hR hxn hey hls hfit hp1 hp2 hsub hmem hxl hgl hpg hlg ey c0 c1 c2 c3 c4 f4
      generalize D.l[i] = q at *
      generalize ys[i] = y at *
      generalize xs'[q.1] = z at *
      go_upto_region 9 with fail
      go_region_held3 (fun w' => w'.cell? ⟨p, 0, none⟩ = some (.slice (some ⟨gs, 0, none⟩) D.N cs1) ∧ w'.cell? ⟨p, 1, none⟩ = some (.slice (some ⟨gl, 0, none⟩) D.l.length cl1) ∧ w'.cell? ⟨gl, i * 2, none⟩ = some (.int .i64 (q.1 : Int)) ∧ w'.cell? ⟨gl, i * 2 + 1, none⟩ = some (.slice ay q.2.length cy))
        (first
          | (refine ⟨?_, ?_, ?_, ?_⟩ <;> simpa using (by assumption))
          | exact ⟨(Mod.setCell (F := fun k => k = gs) _ _ _ rfl).cell' (by simpa using d0) HNE.out, (Mod.setCell (F := fun k => k = gs) _ _ _ rfl).cell' (by simpa using d1) HNE.out, (Mod.setCell (F := fun k => k = gs) _ _ _ rfl).cell' (by simpa using y0) HNE2.out, (Mod.setCell (F := fun k => k = gs) _ _ _ rfl).cell' (by simpa using y1) HNE2.out⟩)
        (fail)
      have md : Mod (fun _ => False) (wr.setCell ⟨gs, q.1, none⟩ y) (wr.setCell ⟨gs, q.1, none⟩ y).drew := Mod.drew _ _
      have hrr := HP1.out.mod md (fun _ _ => id)
      have hmm : Mod (rfoot p vs vl xs ys) w (wr.setCell ⟨gs, q.1, none⟩ y).drew := (hm.trans HP2.out (fun k _ e => .inr (.inl (by rw [HGS.out, e])))).trans md (fun _ _ e => e.elim)
      rw [HEY.out] at hrr hmm
      have HRR := Lib.hid hrr
      have HMM := Lib.hid hmm
      clear hrr hmm md
      go_wp2_with fail
      go_roundw
      case rel =>
        refine ⟨i + 1, _, by omega, by go_num, HRR.out, HMM.out, fun x hx => ?_⟩
        rcases List.mem_or_eq_of_mem_set hx with hx | hx
        · exact HSUB.out x hx
        · rw [hx, ← HEY.out]; exact .inr HMEM.out
      case measure => simp [intOf]; omega
    · obtain rfl : i = D.l.length := by omega
      rw [List.take_length] at hR
      have t1 := thaw_of (i := 1) hR.at_
      obtain ⟨q1, q2⟩ := hR.clean
      have HQ1 := Lib.hid q1
      have HQ2 := Lib.hid q2
      have HSUB := Lib.hid hsub
      clear q1 q2 hR hsub hxl hNN
      go_wp2
      go_ret
      refine ⟨rfl, hm.trans HQ2.out (fun k _ e => .inl e), _, ⟨_, _, _, _, by have hq := HQ1.out; rw [show ({ D with safe := layAll D.safe D.l } : Dsk).bad = D.bad from rfl, show ({ D with safe := layAll D.safe D.l } : Dsk).gone = D.gone from rfl, HB.out, HG.out] at hq; exact hq, rfl⟩, ?_⟩
      rintro k (e | e | e | ⟨x, hx, e⟩ | ⟨y, hy, e⟩)
      · exact .inl (.inl e)
      · exact .inl (.inr (.inl e))
      · simp [Value.ownBlock] at e
      · rcases HSUB.out x hx with h2 | h2
        · exact .inl (.inr (.inr (.inr (.inl ⟨x, h2, e⟩))))
        · exact .inl (.inr (.inr (.inr (.inr ⟨x, h2, e⟩))))
      · cases hy
end
end Go.Proofs.Ytdinnkacilgmmaa
namespace Go.Proofs.Ytdinnkacilgmmaa
open Go.RowKit

/-- a sector behind a crash's step -/
theorem sector_torn (s : List UInt8) (n : Nat) (b : List UInt8) (m : Nat) (hs : n * 256 + 256 ≤ s.length) (hb : b.length = 256) (hm : m ≤ 256) : sector (lay s n (b.take m)) n = b.take m ++ (sector s n).drop m := by
  apply List.ext_getElem?
  intro j
  rw [sector_get]
  unfold lay
  rw [splice_get' s (n * 256) (b.take m) (by rw [List.length_take]; omega), List.length_take, Nat.min_eq_left (by omega), List.getElem?_append, List.length_take, Nat.min_eq_left (by omega)]
  by_cases hj : j < 256
  · rw [if_pos hj]
    by_cases h : j < m
    · rw [if_pos (by omega), if_pos h]
      congr 1
      omega
    · rw [if_neg (by omega), if_neg h, List.getElem?_drop, sector_get, if_pos (by omega)]
      congr 1
      omega
  · rw [if_neg hj, if_neg (by omega), List.getElem?_drop, sector_get, if_neg (by omega)]

theorem torn_step (x s : List UInt8) (j : Nat) (hj : j < x.length) (hl : x.length = s.length) : (x.take j ++ s.drop j).set j x[j] = x.take (j + 1) ++ s.drop (j + 1) := by
  apply List.ext_getElem?
  intro i
  rw [List.getElem?_set]
  simp only [List.length_append, List.length_take, List.length_drop, List.getElem?_append, List.getElem?_take, List.getElem?_drop]
  by_cases e : j = i
  · subst e
    rw [if_pos rfl, if_pos (by omega), if_pos (by omega), if_pos (by omega), List.getElem?_eq_getElem hj]
  · rw [if_neg e]
    by_cases h : i < j
    · rw [if_pos (by omega), if_pos h, if_pos (by omega), if_pos (by omega)]
    · rw [if_neg (by omega), if_neg (by omega)]
      congr 1
      omega

section
variable {w : World} {B p : Nat} {vs vl : Value} {xs ys : List Value} {D : Dsk}

set_option maxHeartbeats 2000000 in
set_option maxRecDepth 100000 in
theorem rcrash_any (h : RV w B p vs vl xs ys D) (hlim : D.l.length ≤ 1048576) (a : Option Addr) (ks : List Int) (cap : Nat) (hk : IntsAt w a ks) (hkf : ∀ x, a = some x → ks ≠ [] → ¬ rfoot p vs vl xs ys x.block)
    (_hm : ks.length ≤ 140737488355328) :
    Calls Try.prog 92 #[.pointer (some ⟨p, 0, none⟩), .slice a ks.length cap] w fun e w' => e = .returned (.tuple #[]) ∧ Left (RDiskT B p (D.crash ks)) (rfoot p vs vl xs ys) w w' := by
  obtain ⟨c0, c1, c2, c3, c4⟩ := h.cell
  obtain ⟨as1, cs1, es, -, -, hpos⟩ := owns_shape h.safe
  obtain ⟨gs, rfl, hgs⟩ := hpos (by have := h.wf.pos; have := h.hx; omega)
  obtain ⟨al1, cl1, el, -, -, hposl⟩ := owns_shape h.l
  have hmx := h.wf.top
  have HES := Lib.hid es
  have HEL := Lib.hid el
  have HPL := Lib.hid hposl
  have HX := Lib.hid h.hx
  have HY := Lib.hid h.hy
  have HGS := Lib.hid hgs
  rw [es] at c0
  rw [el] at c1
  clear hposl es el hgs hpos
  go_enter Try.func92, Try.ntmps92
  go_wp2_with fail
  go_loopw [4] (fun v4 wr => ∃ (i : Nat) (s : List UInt8) (xs' : List Value), i ≤ D.l.length ∧ v4 = .int .i64 (i : Int) ∧ s.length = D.safe.length ∧ crashed s (D.l.drop i) (ks.drop i) = crashed D.safe D.l ks ∧ RV wr B p vs vl xs' ys { D with safe := s } ∧ Mod (rfoot p vs vl xs ys) w wr ∧
      ∀ x ∈ xs', x ∈ xs ∨ ∀ k, x.ownBlock = some k → w.heap.size ≤ k) (fun v4 _ => D.l.length - (intOf v4).toNat)
  case atStart => exact ⟨0, D.safe, xs, Nat.zero_le _, rfl, rfl, rfl, h, Mod.refl _ _, fun x hx => .inl hx⟩
  case round =>
    obtain ⟨i, s, xs', hi, rfl, hsl, hcr, hR, hmr, hsub⟩ := hrel
    obtain ⟨d0, d1, -⟩ := hR.cell
    have hxl := hR.hx
    have hNN : ({ D with safe := s } : Dsk).N = D.N := by unfold Dsk.N; rw [show ({ D with safe := s } : Dsk).safe = s from rfl, hsl]
    rw [HES.out] at d0
    rw [HEL.out] at d1
    rw [HX.out] at d0
    by_cases hlt : i < D.l.length
    · have hlt' : (i : Int) < (D.l.length : Int) := by omega
      obtain ⟨gl, rfl, hgl⟩ := HPL.out (by omega)
      have hiy : i < ys.length := by rw [HY.out]; exact hlt
      obtain ⟨y0, y1⟩ := hR.rows.2 gl hgl i hlt hiy
      have hxn := h.wf.l _ (List.getElem_mem hlt)
      have hey := hR.ey i hiy hlt
      have hnx : D.l[i].1 < xs'.length := by rw [hxl, hNN]; exact hxn.1
      obtain ⟨z0, z1⟩ := hR.rows.1 gs HGS.out _ hnx
      have hez := hR.ex _ hnx
      have hfit := h.wf.fit _ (List.getElem_mem hlt)
      have hs256 : D.l[i].1 * 256 + 256 ≤ s.length := by rw [hsl]; rw [hxn.2] at hfit; exact hfit
      have hnI : ((D.l[i].1 : Nat) : Int) < (D.N : Int) := by have := hxn.1; omega
      have hpg : p ≠ gs := fun e => h.ne.1 (by rw [HGS.out, e])
      have hlg : gl ≠ gs := fun e => h.ne.2.2.1 gl hgl (by rw [HGS.out, e])
      have hzl : (sector s D.l[i].1).length = 256 := sector_length s _ (D.l[i].1 + 1) (by omega) (by omega)
      have hcr2 : crashed (lay s D.l[i].1 (D.l[i].2.take (clamp ((ks.drop i).headD 0)))) (D.l.drop (i + 1)) (ks.drop (i + 1)) = crashed D.safe D.l ks := by
        rw [← hcr, List.drop_eq_getElem_cons hlt]
        show _ = crashed (lay s D.l[i].1 (D.l[i].2.take (clamp ((ks.drop i).headD 0)))) (D.l.drop (i + 1)) (ks.drop i).tail
        rw [List.tail_drop]
      obtain ⟨ay, cy, ey, -, -, hby⟩ := hey.shape
      obtain ⟨az, cz, ez, -, -, hbz⟩ := hez.shape
      rw [ey] at y1
      rw [ez] at z0
      have hzl' : (sector ({ D with safe := s } : Dsk).safe D.l[i].1).length = 256 := hzl
      rw [hzl'] at z0
      rw [hxn.2] at y1
      have hbz : BytesAt wr az (sector s D.l[i].1) := hbz
      have hle : B ≤ wr.heap.size := Nat.le_trans (by have := h.hp; have := (h.lt p (.inl rfl)).2; omega) hmr.size
      have hle0 : B ≤ w.heap.size := by have := h.hp; have := (h.lt p (.inl rfl)).2; omega
      have HYI : ∀ k, ys[i].ownBlock = some k → k < w.heap.size := fun k hk => (h.lt k (.inr (.inr (.inr (.inr ⟨_, List.getElem_mem hiy, hk⟩))))).2
      have HEY := Lib.hid hey
      have HR := Lib.hid hR
      have HSUB := Lib.hid hsub
      have HSL := Lib.hid hsl
      have HCR := Lib.hid hcr2
      have HNE := Lib.hid hpg
      have HNE2 := Lib.hid hlg
      have HZL := Lib.hid hzl
      have HXN := Lib.hid hxn
      have HNN := Lib.hid hNN
      have HEYV := Lib.hid ey
      have HBZ := Lib.hid hbz
      have HBY := Lib.hid hby
      have HS256 := Lib.hid hs256
      have HYI := Lib.hid HYI
      have HGL := Lib.hid hgl
      clear hR hey hez hfit hsub hxl hgl hpg hlg ey ez c0 c1 c2 c3 c4 hcr hcr2 hsl hNN hxn hzl hzl' hbz hby hs256
      obtain ⟨kk, hkk⟩ : ∃ kk : Int, kk = (ks.drop i).headD 0 := ⟨_, rfl⟩
      rw [← hkk] at HCR
      have HKK := Lib.hid hkk
      clear hkk
      go_upto_if 20 with fail
      go_cut [5] (fun v5 wx => v5 = .int .i64 kk ∧ wr = wx)
      case first =>
        by_cases hik : i < ks.length
        · obtain ⟨bk, ok, ea, hck⟩ := hk (by intro e; rw [e] at hik; simp at hik)
          subst ea
          have hik' : (i : Int) < (ks.length : Int) := by omega
          have hbn := hkf _ rfl (by intro e; rw [e] at hik; simp at hik)
          have xk := hmr.cell' (hck i hik) hbn
          have hkv : kk = ks[i] := by rw [HKK.out, List.drop_eq_getElem_cons hik]; rfl
          rw [← hkv] at xk
          clear hck hbn hkv
          go_wp2
          go_meet
          exact ⟨rfl, rfl⟩
        · have hik' : (ks.length : Int) ≤ (i : Int) := by omega
          go_wp2
          go_meet
          refine ⟨?_, rfl⟩
          rw [HKK.out, List.drop_of_length_le (by omega)]
          rfl
      case rest =>
        obtain ⟨rfl, rfl⟩ := hcut
        generalize D.l[i] = q at *
        generalize ys[i] = y at *
        generalize hzz : xs'[q.1] = z at *
        clear hzz
        go_upto_region 6 with fail
        have md : Mod (fun _ => False) wr wr.drew := Mod.drew _ _
        have FUL : ∀ w', wr.drew = w' → Calls Try.prog 89 #[.slice az 256 cz] w' fun e w'' => ∃ v, e = .returned v ∧ OwnB w'' w.heap.size v (sector s q.1) ∧ Mod (fun _ => False) wr w'' ∧ (∀ k, v.ownBlock = some k → wr.heap.size ≤ k) := fun w' e => by
          subst e
          exact (rfull_n az (sector s q.1) 256 cz HZL.out wr.drew w.heap.size (by have := hmr.size; simp; omega) (HBZ.out.mod md (fun _ _ _ => id)) (by rw [HZL.out]; decide)).mono fun e w'' ⟨v, h1, h2, h3, h4⟩ => ⟨v, h1, h2.to (sect_full _ HZL.out), md.trans' h3, h4⟩
        have FUL := Lib.hid FUL
        have e0 : wr.drew.cell? ⟨p, 0, none⟩ = some (.slice (some ⟨gs, 0, none⟩) D.N cs1) := by simpa using d0
        have e1 : wr.drew.cell? ⟨p, 1, none⟩ = some (.slice (some ⟨gl, 0, none⟩) D.l.length cl1) := by simpa using d1
        have e2 : wr.drew.cell? ⟨gl, i * 2, none⟩ = some (.int .i64 (q.1 : Int)) := by simpa using y0
        have e3 : wr.drew.cell? ⟨gs, q.1, none⟩ = some (.slice az 256 cz) := by simpa using z0
        go_region_held3 (fun w' => w'.cell? ⟨p, 0, none⟩ = some (.slice (some ⟨gs, 0, none⟩) D.N cs1) ∧ w'.cell? ⟨p, 1, none⟩ = some (.slice (some ⟨gl, 0, none⟩) D.l.length cl1) ∧ w'.cell? ⟨gl, i * 2, none⟩ = some (.int .i64 (q.1 : Int)) ∧ w'.cell? ⟨gs, q.1, none⟩ = some (.slice az 256 cz))
          (first
            | exact ⟨e0, e1, e2, e3⟩
            | exact ⟨hma.cell' d0 id, hma.cell' d1 id, hma.cell' y0 id, hma.cell' z0 id⟩)
          ((go_at_call 89; refine (FUL.out _ rfl).mono ?_; rintro e wa ⟨v6, rfl, hv6, hma, hn6⟩))
        obtain ⟨gb, cb, _, ev6, -, -, -, -, -, -⟩ := hv6.row (by intro e; have := HZL.out; rw [e] at this; cases this)
        rw [HZL.out] at ev6
        subst ev6
        have hgb : wr.heap.size ≤ gb := hn6 gb rfl
        have hcl : clamp kk ≤ 256 := by unfold clamp; omega
        have h00 : OwnB wa w.heap.size (.slice (some ⟨gb, 0, none⟩) 256 cb) (q.2.take 0 ++ (sector s q.1).drop 0) := by simpa using hv6
        have H00 := Lib.hid h00
        have HM0 := Lib.hid hma
        clear h00 hv6 hn6 e0 e1 e2 e3 hma
        go_upto_block 2 with fail
        go_cut [] (fun wx => OwnB wx w.heap.size (.slice (some ⟨gb, 0, none⟩) 256 cb) (q.2.take (clamp kk) ++ (sector s q.1).drop (clamp kk)) ∧ Mod (fun _ => False) wr wx)
        case first =>
          go_wp2_with fail
          go_loopw [7] (fun v7 wq => ∃ j : Nat, j ≤ clamp kk ∧ v7 = .int .i64 (j : Int) ∧ OwnB wq w.heap.size (.slice (some ⟨gb, 0, none⟩) 256 cb) (q.2.take j ++ (sector s q.1).drop j) ∧ Mod (fun _ => False) wr wq) (fun v7 _ => 256 - (intOf v7).toNat)
          case atStart => exact ⟨0, Nat.zero_le _, rfl, H00.out, HM0.out⟩
          case round =>
            obtain ⟨j, hj, rfl, ho, hmq⟩ := hrel
            clear H00 HM0
            by_cases hj2 : j < clamp kk
            · have hj256 : (j : Int) < 256 := by omega
              have hjk : (j : Int) < kk := by unfold clamp at hj2; omega
              have g0 := hmq.cell' d1 id
              have g1 := hmq.cell' y1 id
              have hjl : j < q.2.length := by rw [HXN.out.2]; omega
              have hbq := HBY.out.mod hmq (fun _ _ _ => id)
              obtain ⟨by1, oy1, eay, hcy⟩ := hbq (by intro e; rw [e] at hjl; simp at hjl)
              have g2 := hcy j hjl
              have htl : (q.2.take j ++ (sector s q.1).drop j).length = 256 := by rw [List.length_append, List.length_take, List.length_drop, HXN.out.2, HZL.out]; omega
              obtain ⟨x0, x1⟩ := ho.cellAt j (by rw [htl]; omega)
              have hst := ho.store j q.2[j]
              rw [torn_step q.2 (sector s q.1) j hjl (by rw [HXN.out.2, HZL.out])] at hst
              have HST := Lib.hid hst
              have HEAY := Lib.hid eay
              clear hst
              generalize (q.2.take j ++ (sector s q.1).drop j)[j] = b0 at *
              generalize q.2[j] = b1 at *
              clear hbq hcy htl hjl ho
              rw [HEAY.out] at g1
              go_wp2_with fail
              go_roundw
              case rel => exact ⟨j + 1, by omega, by go_num, HST.out, hmq.trans (Mod.setCell (F := fun k => k = gb) _ _ _ rfl) (fun k hk e => by omega)⟩
              case measure => simp [intOf]; omega
            · obtain rfl : j = clamp kk := by omega
              have hor : ¬ ((clamp kk : Nat) : Int) < 256 ∨ ¬ ((clamp kk : Nat) : Int) < kk := by unfold clamp; omega
              by_cases h256 : ((clamp kk : Nat) : Int) < 256
              · have hk2 : ¬ ((clamp kk : Nat) : Int) < kk := by omega
                generalize clamp kk = cc at *
                go_wp2
                go_meet
                exact ⟨ho, hmq⟩
              · generalize clamp kk = cc at *
                go_wp2
                go_meet
                exact ⟨ho, hmq⟩
        case rest =>
          obtain ⟨ho, hmx2⟩ := hcut
          clear H00 HM0
          have hRx := HR.out.mod hmx2 (fun _ _ => id)
          have hput := hRx.put q.1 (by rw [HNN.out]; exact HXN.out.1) (.slice (some ⟨gb, 0, none⟩) 256 cb) _ (lay s q.1 (q.2.take (clamp kk))) (ho.weaken hle0) gs HGS.out
            (lay_length s _ _ (by rw [List.length_take]; have := HS256.out; omega))
            (sector_torn s q.1 q.2 (clamp kk) HS256.out HXN.out.2 hcl)
            (fun m hm => sector_lay_off s _ _ _ (by rw [List.length_take]; have := HS256.out; omega) (by rw [List.length_take]; omega) hm)
          obtain ⟨hp1, hp2⟩ := hput
          have g0 := hmx2.cell' d0 id
          have g1 := hmx2.cell' d1 id
          have g2 := hmx2.cell' y0 id
          have g3 := hmx2.cell' z0 id
          have g4 := (hRx.rows.1 gs HGS.out q.1 (by rw [hRx.hx, HNN.out]; exact HXN.out.1)).2
          have HP1 := Lib.hid hp1
          have HP2 := Lib.hid hp2
          clear hRx hp1 hp2 ho hcl
          go_upto_region 11 with fail
          go_region_held3 (fun w' => w'.cell? ⟨p, 0, none⟩ = some (.slice (some ⟨gs, 0, none⟩) D.N cs1) ∧ w'.cell? ⟨p, 1, none⟩ = some (.slice (some ⟨gl, 0, none⟩) D.l.length cl1) ∧ w'.cell? ⟨gl, i * 2, none⟩ = some (.int .i64 (q.1 : Int)))
            (first
              | (refine ⟨?_, ?_, ?_⟩ <;> simpa using (by assumption))
              | exact ⟨(Mod.setCell (F := fun k => k = gs) _ _ _ rfl).cell' (by simpa using g0) HNE.out, (Mod.setCell (F := fun k => k = gs) _ _ _ rfl).cell' (by simpa using g1) HNE.out, (Mod.setCell (F := fun k => k = gs) _ _ _ rfl).cell' (by simpa using g2) HNE2.out⟩)
            (fail)
          have md2 : Mod (fun _ => False) (wc.setCell ⟨gs, q.1, none⟩ (.slice (some ⟨gb, 0, none⟩) 256 cb)) (wc.setCell ⟨gs, q.1, none⟩ (.slice (some ⟨gb, 0, none⟩) 256 cb)).drew := Mod.drew _ _
          have hrr := HP1.out.mod md2 (fun _ _ => id)
          have hmm : Mod (rfoot p vs vl xs ys) w (wc.setCell ⟨gs, q.1, none⟩ (.slice (some ⟨gb, 0, none⟩) 256 cb)).drew := ((hmr.trans hmx2 (fun _ _ e => e.elim)).trans HP2.out (fun k _ e => .inr (.inl (by rw [HGS.out, e])))).trans md2 (fun _ _ e => e.elim)
          have HRR := Lib.hid hrr
          have HMM := Lib.hid hmm
          clear hrr hmm md2
          go_wp2_with fail
          go_roundw
          case rel =>
            refine ⟨i + 1, _, _, by omega, by go_num, ?_, HCR.out, HRR.out, HMM.out, fun x hx => ?_⟩
            · rw [lay_length s _ _ (by rw [List.length_take]; have h1 := HS256.out; have h2 : clamp kk ≤ 256 := by unfold clamp; omega
                                       omega)]; exact HSL.out
            · rcases List.mem_or_eq_of_mem_set hx with hx | hx
              · exact HSUB.out x hx
              · rw [hx]
                refine .inr (fun k hk => ?_)
                simp [Value.ownBlock] at hk
                have := hmr.size
                omega
          case measure => simp [intOf]; omega
    · obtain rfl : i = D.l.length := by omega
      rw [List.drop_length] at hcr
      have hse : s = crashed D.safe D.l ks := hcr
      have t1 := thaw_of (i := 1) hR.at_
      have t2 := thaw_of (i := 2) hR.at_
      have t3 := thaw_of (i := 3) hR.at_
      have t4 := thaw_of (i := 4) hR.at_
      obtain ⟨-, -, d2, d3, d4⟩ := hR.cell
      obtain ⟨q1, q2⟩ := hR.clean
      have r1 := q1.flag 2 (.bool false) { safe := s, l := [], bad := false, full := D.full, gone := D.gone } rfl rfl rfl
      have r2 := r1.1.flag 3 (.bool false) { safe := s, l := [], bad := false, full := false, gone := D.gone } rfl rfl rfl
      have r3 := r2.1.flag 4 (.bool false) { safe := s, l := [], bad := false, full := false, gone := false } rfl rfl rfl
      have hfin := r3.1
      rw [show ({ safe := s, l := [], bad := false, full := false, gone := false } : Dsk) = D.crash ks by unfold Dsk.crash; rw [hse]] at hfin
      have hpn : ∀ k, rfoot p vs (.slice none 0 0) xs' [] k → rfoot p vs vl xs ys k ∨ w.heap.size ≤ k := by
        rintro k (e | e | e | ⟨x, hx, e⟩ | ⟨y, hy, e⟩)
        · exact .inl (.inl e)
        · exact .inl (.inr (.inl e))
        · simp [Value.ownBlock] at e
        · rcases hsub x hx with h2 | h2
          · exact .inl (.inr (.inr (.inr (.inl ⟨x, h2, e⟩))))
          · exact .inr (h2 k e)
        · cases hy
      have hmf : Mod (fun k => k = p) wr ((((wr.setCell ⟨p, 1, none⟩ (.slice none 0 0)).setCell ⟨p, 2, none⟩ (.bool false)).setCell ⟨p, 3, none⟩ (.bool false)).setCell ⟨p, 4, none⟩ (.bool false)) :=
        ((q2.trans' (Mod.setCell (F := fun k => k = p) _ _ _ rfl)).trans' (Mod.setCell (F := fun k => k = p) _ _ _ rfl)).trans' (Mod.setCell (F := fun k => k = p) _ _ _ rfl)
      have HFIN := Lib.hid hfin
      have HPN := Lib.hid hpn
      have HMF := Lib.hid hmf
      clear q1 q2 r1 r2 r3 hfin hpn hmf hR hsub hse hcr hsl hNN hxl
      go_wp2
      go_end0
      exact ⟨rfl, hmr.trans HMF.out (fun k _ e => .inl e), _, ⟨_, _, _, _, HFIN.out, rfl⟩, HPN.out⟩
end
end Go.Proofs.Ytdinnkacilgmmaa
namespace Go.Proofs.Ytdinnkacilgmmaa
open Go.RowKit

section
variable {w : World} {B p : Nat} {D : Dsk} {F : Nat → Prop}

theorem RDiskAt.mod {G : Nat → Prop} {w' : World} (h : RDiskAt w B p D F) (hm : Mod G w w') (hF : ∀ k, F k → ¬ G k) : RDiskAt w' B p D F := by
  obtain ⟨vs, vl, xs, ys, h, rfl⟩ := h
  exact ⟨vs, vl, xs, ys, h.mod hm hF, rfl⟩
theorem RDiskAt.lt (h : RDiskAt w B p D F) : ∀ k, F k → B ≤ k ∧ k < w.heap.size := by
  obtain ⟨vs, vl, xs, ys, h, rfl⟩ := h
  exact h.lt
theorem RDiskAt.wf (h : RDiskAt w B p D F) : D.wf := by
  obtain ⟨vs, vl, xs, ys, h, rfl⟩ := h
  exact h.wf
theorem Left.pre {T : Thg B} {W w' : World} (m : Mod (fun _ => False) w W) (ht : Left T F W w') : Left T F w w' := by
  obtain ⟨m1, F', h, hF⟩ := ht
  refine ⟨(m.mono (fun _ _ e => e.elim)).trans m1 (fun _ _ e => e), F', h, fun k hk => ?_⟩
  rcases hF k hk with e | e
  · exact .inl e
  · exact .inr (Nat.le_trans m.size e)

theorem RDiskAt.write (h : RDiskAt w B p D F) (hlim : D.l.length + 1 ≤ 1048576) (n : Int) (a : Option Addr) (b : List UInt8) (cap : Nat) (hb : BytesAt w a b) (hm : b.length ≤ 140737488355328) :
    Calls Try.prog 90 #[.pointer (some ⟨p, 0, none⟩), .int .i64 n, .slice a b.length cap] w fun e w' => e = .returned (.int .i64 (D.why n b)) ∧ Left (RDiskT B p (D.write n b)) F w w' := by
  obtain ⟨vs, vl, xs, ys, h, rfl⟩ := h
  by_cases hw : D.why n b = 0
  · have hc := hw
    unfold Dsk.why at hc
    split at hc
    · exact absurd hc (by decide)
    split at hc
    · exact absurd hc (by decide)
    split at hc
    · exact absurd hc (by decide)
    split at hc
    · exact absurd hc (by decide)
    rename_i h1 h2 h3 h4
    obtain ⟨k, rfl⟩ : ∃ k : Nat, n = (k : Int) := ⟨n.toNat, by omega⟩
    have hwr : D.write (k : Int) b = { D with l := D.l ++ [(k, sect b)] } := by unfold Dsk.write; rw [if_pos hw, Int.toNat_natCast]
    rw [hw, hwr]
    exact rwrite_ok h k a b cap hb (by simpa using h1) (by omega) (by omega) (by simpa using h4) hlim
  · have hwr : D.write n b = D := by unfold Dsk.write; rw [if_neg hw]
    rw [hwr]
    refine (rwrite_no h n a b cap hm hw).mono ?_
    rintro e w' ⟨rfl, rfl⟩
    exact ⟨rfl, h.still⟩
theorem RDiskAt.sync (h : RDiskAt w B p D F) (hlim : D.l.length ≤ 1048576) : Calls Try.prog 91 #[.pointer (some ⟨p, 0, none⟩)] w fun e w' => e = .returned (.int .i64 D.whySync) ∧ Left (RDiskT B p D.sync) F w w' := by
  obtain ⟨vs, vl, xs, ys, h, rfl⟩ := h
  exact rsync_any h hlim
theorem RDiskAt.crash (h : RDiskAt w B p D F) (hlim : D.l.length ≤ 1048576) (a : Option Addr) (ks : List Int) (cap : Nat) (hk : IntsAt w a ks) (hkf : ∀ x, a = some x → ks ≠ [] → ¬ F x.block) (hm : ks.length ≤ 140737488355328) :
    Calls Try.prog 92 #[.pointer (some ⟨p, 0, none⟩), .slice a ks.length cap] w fun e w' => e = .returned (.tuple #[]) ∧ Left (RDiskT B p (D.crash ks)) F w w' := by
  obtain ⟨vs, vl, xs, ys, h, rfl⟩ := h
  exact rcrash_any h hlim a ks cap hk hkf hm
theorem RDiskAt.read (h : RDiskAt w B p D F) (n : Int) (C : Nat) (hC : C ≤ w.heap.size) (hlim : D.l.length ≤ 1048576) : Calls Try.prog 94 #[.pointer (some ⟨p, 0, none⟩), .int .i64 n] w fun e w' =>
    ∃ v, e = .returned (.tuple #[v, .int .i64 (D.wrong n)]) ∧ OwnB w' C v (if D.wrong n = 0 then sector D.now n.toNat else []) ∧ Mod (fun _ => False) w w' ∧ (∀ k, v.ownBlock = some k → w.heap.size ≤ k) := by
  obtain ⟨vs, vl, xs, ys, h, rfl⟩ := h
  exact rread_any h n C hC hlim
theorem RDiskAt.image (h : RDiskAt w B p D F) (C : Nat) (hC : C ≤ w.heap.size) : Calls Try.prog 93 #[.pointer (some ⟨p, 0, none⟩)] w fun e w' =>
    ∃ v, e = .returned v ∧ OwnB w' C v D.safe ∧ Mod (fun _ => False) w w' ∧ (∀ k, v.ownBlock = some k → w.heap.size ≤ k) := by
  obtain ⟨vs, vl, xs, ys, h, rfl⟩ := h
  exact rimage_any h C hC

end

section
variable {w0 w : World} {B p : Nat} {Ts : List (Thg B)} {D : Dsk}
theorem Apart.rdisk (h : Apart w0 B Ts w) (i : Nat) (hi : Ts[i]? = some (RDiskT B p D)) : ∃ F, RDiskAt w B p D F := h.get i hi
theorem Apart.rborn (h : Apart w0 B Ts w) {v : Value} {D : Dsk} {w' : World} (hb : RBorn w B v D w') : ∃ p, v = .pointer (some ⟨p, 0, none⟩) ∧ Apart w0 B (Ts ++ [RDiskT B p D]) w' := by
  obtain ⟨p, F, rfl, hd, hm, hF⟩ := hb
  exact ⟨p, rfl, h.more (RDiskT B p D) hm hd hF⟩
end
end Go.Proofs.Ytdinnkacilgmmaa
