/- The reference's disk in memory: rows of rows of bytes; appending to a row of whatever elements. -/
import Derived.Test.YtdinnkacilgmmaaGrow
namespace Go.Proofs.Ytdinnkacilgmmaa
open Go.RowKit

/-! ### appending -/
theorem info22 : (Try.prog.info? 22).map (fun i => (i.zero, i.size, i.bytes)) = some (some (.slice none 0 0), 1, 24) := by kernel_rfl
theorem info166 : (Try.prog.info? 166).map (fun i => (i.zero, i.size, i.bytes)) = some (some (.agg #[.int .i64 0, .slice none 0 0]), 2, 32) := by kernel_rfl

theorem appR_step {w : World} {ops : Array Oper} {o : Oper} {a : Act} {K : Act → World → Prop} {Q : Exit → Act → World → Prop} {E : Prop} (T e : TypeId) (z : Value) (size bytes : Nat) (hT : Try.prog.underlying T = some (.slice e))
    (hinfo : (Try.prog.info? e).map (fun i => (i.zero, i.size, i.bytes)) = some (some z, size, bytes)) (hz : z.cells.size = size) (hb0 : bytes ≤ 1000) (hb1 : 0 < size)
    (hgd : o.guard = none) (s x : Operand) (ho : o.op = .call { callee := .builtin .append, args := #[s, x], argTypes := #[T, T] })
    (B : Nat) (v : Value) (n : Nat) (xs : List Value) (hs : a.eval s = v) (hown : w.ownsRow B e size v n xs)
    (ad : Addr) (m c : Nat) (news : List Value) (hx : a.eval x = .slice (some ad) m c) (hm : news.length = m * size)
    (hc : ∀ (j : Nat) u, news[j]? = some u → w.cell? (ad.add j) = some u) (h1 : ∀ u ∈ news, u.oneCell' = true)
    (h47 : n + m ≤ 1048576) (hB : B ≤ w.heap.size)
    (h : ∀ v' w', w'.ownsRow B e size v' (n + m) (xs ++ news) → Mod (fun k => some k = v.ownBlock) w w' → (v'.ownBlock = v.ownBlock ∨ v'.ownBlock = some w.heap.size) → K (a.put o.dst v') w') :
    if Region.wanted o (yielded ops a.tmps) = true then Oper.wp Try.prog o a w K Q else E := by
  rw [if_pos (by simp [Region.wanted, hgd])]
  obtain ⟨i, hi, hz1, hs1, hb⟩ := info_parts hinfo
  have hnb : (n + m) * bytes ≤ 1048576 * 1000 := Nat.mul_le_mul h47 hb0
  obtain ⟨v', w', hrun, k1, k2, -, k4⟩ := run_append_own_at (P := Try.prog) w B T o.type e i z size bytes hT hi hz1 hs1 hb hz hb1 v n xs hown ad m c news hm hc h1 (by unfold maxLen; omega) (by omega) hB
  unfold Oper.wp execOp
  simp only [ho, resolve, invoke, builtin, Sem.run_bind, Sem.run_pure, Result.andThen_ok, List.map_toArray, List.map_cons, List.map_nil, hs, hx, hrun]
  exact h v' w' k1 (Mod.grown k2) k4

theorem appR {w : World} {ops : Array Oper} {rest : List Oper} {o : Oper} {a : Act} {Q : Exit → Act → World → Prop} (T e : TypeId) (z : Value) (size bytes : Nat) (hT : Try.prog.underlying T = some (.slice e))
    (hinfo : (Try.prog.info? e).map (fun i => (i.zero, i.size, i.bytes)) = some (some z, size, bytes)) (hz : z.cells.size = size) (hb0 : bytes ≤ 1000) (hb1 : 0 < size)
    (hgd : o.guard = none) (s x : Operand) (ho : o.op = .call { callee := .builtin .append, args := #[s, x], argTypes := #[T, T] })
    (B : Nat) (v : Value) (n : Nat) (xs : List Value) (hs : a.eval s = v) (hown : w.ownsRow B e size v n xs)
    (ad : Addr) (m c : Nat) (news : List Value) (hx : a.eval x = .slice (some ad) m c) (hm : news.length = m * size)
    (hc : ∀ (j : Nat) u, news[j]? = some u → w.cell? (ad.add j) = some u) (h1 : ∀ u ∈ news, u.oneCell' = true)
    (h47 : n + m ≤ 1048576) (hB : B ≤ w.heap.size)
    (h : ∀ v' w', w'.ownsRow B e size v' (n + m) (xs ++ news) → Mod (fun k => some k = v.ownBlock) w w' → (v'.ownBlock = v.ownBlock ∨ v'.ownBlock = some w.heap.size) → wpList Try.prog ops Q rest (a.put o.dst v') w') :
    wpList Try.prog ops Q (o :: rest) a w := by
  refine wpList_plain hgd fun K hK => ?_
  have := appR_step (ops := ops) (E := True) (K := K) (Q := Q) T e z size bytes hT hinfo hz hb0 hb1 hgd s x ho B v n xs hs hown ad m c news hx hm hc h1 h47 hB (fun v' w' k1 k2 k3 => hK _ _ (h v' w' k1 k2 k3))
  rwa [if_pos (by simp [Region.wanted, hgd])] at this

theorem cells_new (w : World) (cs : List Value) (t : TypeId) : ∀ (j : Nat) u, cs[j]? = some u → (w.alloc (.cells cs.toArray t)).cell? ((⟨w.heap.size, 0, none⟩ : Addr).add j) = some u := by
  intro j u hu
  have hadd : (⟨w.heap.size, 0, none⟩ : Addr).add j = ⟨w.heap.size, j, none⟩ := by unfold Addr.add; split <;> simp_all
  rw [hadd, cell_of_row _ w.heap.size j _ t (0, 0) (heap_alloc_new w _)]
  simpa using hu

theorem owns_mod {F : Nat → Prop} {w w' : World} {B e size n : Nat} {v : Value} {xs : List Value} (h : w.ownsRow B e size v n xs) (hm : Mod F w w') (hF : ∀ k, v.ownBlock = some k → ¬ F k) : w'.ownsRow B e size v n xs := by
  refine ⟨h.1, ?_⟩
  rcases h.2 with hn | ⟨g, cap, cur, rfl, hb, hgg, rest⟩
  · exact .inl hn
  · exact .inr ⟨g, cap, cur, rfl, hb, hm.obj hgg (hF g rfl), rest⟩
theorem owns_weaken {w : World} {B B' e size n : Nat} {v : Value} {xs : List Value} (h : w.ownsRow B' e size v n xs) (hB : B ≤ B') : w.ownsRow B e size v n xs := by
  refine ⟨h.1, ?_⟩
  rcases h.2 with hn | ⟨g, cap, cur, rfl, hb, rest⟩
  · exact .inl hn
  · exact .inr ⟨g, cap, cur, rfl, Nat.le_trans hB hb, rest⟩
theorem owns_shape {w : World} {B e size n : Nat} {v : Value} {xs : List Value} (h : w.ownsRow B e size v n xs) : ∃ a cap, v = .slice a n cap ∧ n ≤ cap ∧ cap ≤ maxLen ∧ (0 < n → ∃ g, a = some ⟨g, 0, none⟩ ∧ v.ownBlock = some g) := by
  rcases h.2 with ⟨rfl, rfl⟩ | ⟨g, cap, cur, rfl, h2, h3, h4, h5, -⟩
  · exact ⟨none, 0, rfl, Nat.le_refl _, by decide, fun h => absurd h (by decide)⟩
  · exact ⟨_, cap, rfl, h4, h5, fun _ => ⟨g, rfl, rfl⟩⟩

/-! ### full: bytes as a sector -/
theorem sect_set (l : List UInt8) (i : Nat) (h : i < l.length) (h2 : l.length ≤ 256) : (sect (l.take i)).set i l[i] = sect (l.take (i + 1)) := by
  apply List.ext_getElem?
  intro j
  rw [List.getElem?_set]
  unfold sect
  simp only [List.length_take, List.getElem?_append, List.length_append, List.length_replicate]
  by_cases e : i = j
  · subst e
    rw [if_pos rfl, if_pos (by omega), if_pos (by omega), List.getElem?_take, if_pos (by omega), List.getElem?_eq_getElem h]
  · rw [if_neg e]
    by_cases h3 : j < i
    · rw [if_pos (by omega), if_pos (by omega), List.getElem?_take, List.getElem?_take, if_pos h3, if_pos (by omega)]
    · rw [if_neg (by omega), if_neg (by omega), List.getElem?_replicate, List.getElem?_replicate]
      by_cases h4 : j < 256
      · rw [if_pos (by omega), if_pos (by omega)]
      · rw [if_neg (by omega), if_neg (by omega)]

set_option maxRecDepth 100000 in
theorem rfull_any (a : Option Addr) (l : List UInt8) (cap : Nat) (w : World) (C : Nat) (hC : C ≤ w.heap.size) (hb : BytesAt w a l) (hl : l.length ≤ 256) :
    Calls Try.prog 89 #[.slice a l.length cap] w fun e w' => ∃ v, e = .returned v ∧ OwnB w' C v (sect l) ∧ Mod (fun _ => False) w w' ∧ (∀ k, v.ownBlock = some k → w.heap.size ≤ k) := by
  have km : ∀ w : World, (Instr.makeSlice 22 (.int .i64 256) (.int .i64 256)).run Try.prog w = .ok (.slice (some ⟨w.heap.size, 0, none⟩) 256 256) (w.alloc (.cells (zerosV 256) 5)) := fun w => run_make_bytes w 256 (by decide)
  have o0 : OwnB (w.alloc (.cells (zerosV 256) 5)) w.heap.size (.slice (some ⟨w.heap.size, 0, none⟩) 256 256) (sect (l.take 0)) := by
    have := OwnB.made w w.heap.size (List.replicate 256 0) (zerosV 256) rfl (Nat.le_refl _) (by rw [List.length_replicate]; decide)
    rw [List.length_replicate] at this
    exact this
  have HO := Lib.hid o0
  clear o0
  go_enter Try.func89, Try.ntmps89
  go_wp2_with fail
  go_loopw [4] (fun v4 wr => ∃ i : Nat, i ≤ l.length ∧ v4 = .int .i64 (i : Int) ∧ OwnB wr w.heap.size (.slice (some ⟨w.heap.size, 0, none⟩) 256 256) (sect (l.take i)) ∧ Mod (fun k => k = w.heap.size) w wr) (fun v4 _ => l.length - (intOf v4).toNat)
  case atStart => exact ⟨0, Nat.zero_le _, rfl, HO.out, Mod.alloc _ _ _⟩
  case round =>
    obtain ⟨i, hi, rfl, ho, hm⟩ := hrel
    by_cases hlt : i < l.length
    · have hlt' : (i : Int) < (l.length : Int) := by omega
      have h256 : (i : Int) < 256 := by omega
      have hbr := hb.mod hm (fun x e hne he => by subst e; have := hb.lt hne; omega)
      obtain ⟨b, off, rfl, hcb⟩ := hbr (by intro e; rw [e] at hlt; simp at hlt)
      have xc := hcb i hlt
      have hlen : (sect (l.take i)).length = 256 := sect_length _ (by rw [List.length_take]; omega)
      obtain ⟨x0, x1⟩ := ho.cellAt i (by rw [hlen]; omega)
      have hst := ho.store i l[i]
      rw [sect_set l i hlt hl] at hst
      have HST := Lib.hid hst
      clear hst
      generalize (sect (l.take i))[i] = c0 at *
      generalize l[i] = c1 at *
      clear hbr hcb hlen
      go_wp2_with fail
      go_roundw
      case rel => exact ⟨i + 1, by omega, by go_num, HST.out, hm.trans (Mod.setCell (F := fun k => k = w.heap.size) _ _ _ rfl) (fun _ _ e => e)⟩
      case measure => simp [intOf]; omega
    · obtain rfl : i = l.length := by omega
      rw [List.take_length] at ho
      by_cases h256 : (l.length : Int) < 256
      all_goals
        go_wp2
        go_ret
        exact ⟨_, rfl, ho.weaken hC, hm.mono (fun k hk e => by omega), fun k hk => by simp [Value.ownBlock] at hk; omega⟩

theorem rfull_n (a : Option Addr) (l : List UInt8) (n cap : Nat) (hn : l.length = n) (w : World) (C : Nat) (hC : C ≤ w.heap.size) (hb : BytesAt w a l) (hl : l.length ≤ 256) :
    Calls Try.prog 89 #[.slice a n cap] w fun e w' => ∃ v, e = .returned v ∧ OwnB w' C v (sect l) ∧ Mod (fun _ => False) w w' ∧ (∀ k, v.ownBlock = some k → w.heap.size ≤ k) := by
  subst hn; exact rfull_any a l cap w C hC hb hl

/-! ### the disk -/
def lcells (l : List (Nat × List UInt8)) (ys : List Value) : List Value := (List.zipWith (fun x y => [Value.int .i64 (x.1 : Int), y]) l ys).flatten

structure RV (w : World) (B p : Nat) (vs vl : Value) (xs ys : List Value) (D : Dsk) : Prop where
  wf : D.wf
  at_ : w.heap[p]? = some (.cells #[vs, vl, .bool D.bad, .bool D.full, .bool D.gone] 69 (0, 0))
  hp : B ≤ p
  safe : w.ownsRow B 22 1 vs xs.length xs
  hx : xs.length = D.N
  ex : ∀ i (h : i < xs.length), OwnB w B xs[i] (sector D.safe i)
  l : w.ownsRow B 166 2 vl D.l.length (lcells D.l ys)
  hy : ys.length = D.l.length
  ey : ∀ i (h : i < ys.length) (h2 : i < D.l.length), OwnB w B ys[i] D.l[i].2

def rfoot (p : Nat) (vs vl : Value) (xs ys : List Value) (k : Nat) : Prop := k = p ∨ vs.ownBlock = some k ∨ vl.ownBlock = some k ∨ (∃ x ∈ xs, x.ownBlock = some k) ∨ (∃ y ∈ ys, y.ownBlock = some k)

section
variable {w w' : World} {B p : Nat} {vs vl : Value} {xs ys : List Value} {D : Dsk}
theorem RV.mod {F : Nat → Prop} (h : RV w B p vs vl xs ys D) (hm : Mod F w w') (hF : ∀ k, rfoot p vs vl xs ys k → ¬ F k) : RV w' B p vs vl xs ys D :=
  ⟨h.wf, hm.obj h.at_ (hF p (.inl rfl)), h.hp, owns_mod h.safe hm (fun k hk => hF k (.inr (.inl hk))), h.hx, fun i hi => (h.ex i hi).mod hm (fun k hk => hF k (.inr (.inr (.inr (.inl ⟨_, List.getElem_mem hi, hk⟩))))),
    owns_mod h.l hm (fun k hk => hF k (.inr (.inr (.inl hk)))), h.hy, fun i hi h2 => (h.ey i hi h2).mod hm (fun k hk => hF k (.inr (.inr (.inr (.inr ⟨_, List.getElem_mem hi, hk⟩)))))⟩
theorem RV.lt (h : RV w B p vs vl xs ys D) : ∀ k, rfoot p vs vl xs ys k → B ≤ k ∧ k < w.heap.size := by
  rintro k (rfl | hk | hk | ⟨x, hx, hk⟩ | ⟨y, hy, hk⟩)
  · exact ⟨h.hp, lt_of_block h.at_⟩
  · exact World.ownsRow.lt h.safe k hk
  · exact World.ownsRow.lt h.l k hk
  · obtain ⟨i, hi, rfl⟩ := List.getElem_of_mem hx
    exact World.ownsRow.lt (h.ex i hi) k hk
  · obtain ⟨i, hi, rfl⟩ := List.getElem_of_mem hy
    exact World.ownsRow.lt (h.ey i hi (by have := h.hy; omega)) k hk

def RDiskAt (w : World) (B p : Nat) (D : Dsk) (F : Nat → Prop) : Prop := ∃ vs vl xs ys, RV w B p vs vl xs ys D ∧ F = rfoot p vs vl xs ys
def RDiskT (B p : Nat) (D : Dsk) : Thg B :=
  ⟨fun w F => RDiskAt w B p D F, fun h => by obtain ⟨vs, vl, xs, ys, h, rfl⟩ := h; exact h.lt, fun h hm hF => by obtain ⟨vs, vl, xs, ys, h, rfl⟩ := h; exact ⟨vs, vl, xs, ys, h.mod hm hF, rfl⟩⟩

theorem RV.cell (h : RV w B p vs vl xs ys D) : w.cell? ⟨p, 0, none⟩ = some vs ∧ w.cell? ⟨p, 1, none⟩ = some vl ∧ w.cell? ⟨p, 2, none⟩ = some (.bool D.bad) ∧ w.cell? ⟨p, 3, none⟩ = some (.bool D.full) ∧ w.cell? ⟨p, 4, none⟩ = some (.bool D.gone) := by
  have hc := fun j => cell_of_row w p j _ 69 (0, 0) h.at_
  exact ⟨hc 0, hc 1, hc 2, hc 3, hc 4⟩

/-- blocks of other kinds are other blocks -/
theorem RV.ne (h : RV w B p vs vl xs ys D) : vs.ownBlock ≠ some p ∧ vl.ownBlock ≠ some p ∧ (∀ k, vl.ownBlock = some k → vs.ownBlock ≠ some k) ∧ (∀ i (hi : i < xs.length) k, xs[i].ownBlock = some k → k ≠ p ∧ vs.ownBlock ≠ some k ∧ vl.ownBlock ≠ some k) ∧
    (∀ i (hi : i < ys.length) k, ys[i].ownBlock = some k → k ≠ p ∧ vs.ownBlock ≠ some k ∧ vl.ownBlock ≠ some k) := by
  refine ⟨own_ne h.safe h.at_ (by decide), own_ne h.l h.at_ (by decide), fun k hk => ?_, fun i hi k hk => ?_, fun i hi k hk => ?_⟩
  · obtain ⟨c, hc⟩ := own_type h.l hk
    exact own_ne h.safe hc (by decide)
  · obtain ⟨c, hc⟩ := own_type (h.ex i hi) hk
    refine ⟨fun e => ?_, own_ne h.safe hc (by decide), own_ne h.l hc (by decide)⟩
    subst e
    rw [h.at_] at hc
    injection hc with hc
    injection hc with _ h2
    cases h2
  · obtain ⟨c, hc⟩ := own_type (h.ey i hi (by have := h.hy; omega)) hk
    refine ⟨fun e => ?_, own_ne h.safe hc (by decide), own_ne h.l hc (by decide)⟩
    subst e
    rw [h.at_] at hc
    injection hc with hc
    injection hc with _ h2
    cases h2

theorem lcells_get (l : List (Nat × List UInt8)) (ys : List Value) (h : ys.length = l.length) (i : Nat) (hi : i < l.length) :
    (lcells l ys)[i * 2]? = some (.int .i64 (l[i].1 : Int)) ∧ (lcells l ys)[i * 2 + 1]? = ys[i]? := by
  induction l generalizing ys i with
  | nil => simp at hi
  | cons x r ih =>
    cases ys with
    | nil => simp at h
    | cons y t =>
      cases i with
      | zero => simp [lcells]
      | succ i =>
        have := ih t (by simpa using h) i (by simpa using hi)
        simp only [lcells, List.zipWith_cons_cons, List.flatten_cons, List.getElem_cons_succ, List.getElem?_cons_succ]
        rw [List.getElem?_append_right (by simp; omega), List.getElem?_append_right (by simp; omega)]
        simp only [List.length_cons, List.length_nil]
        rw [show (i + 1) * 2 - (0 + 1 + 1) = i * 2 by omega, show (i + 1) * 2 + 1 - (0 + 1 + 1) = i * 2 + 1 by omega]
        exact this
theorem lcells_length (l : List (Nat × List UInt8)) (ys : List Value) (h : ys.length = l.length) : (lcells l ys).length = l.length * 2 := by
  induction l generalizing ys with
  | nil => simp [lcells]
  | cons x r ih =>
    cases ys with
    | nil => simp at h
    | cons y t =>
      have := ih t (by simpa using h)
      simp only [lcells, List.zipWith_cons_cons, List.flatten_cons, List.length_append, List.length_cons, List.length_nil] at this ⊢
      omega
theorem lcells_snoc (l : List (Nat × List UInt8)) (ys : List Value) (h : ys.length = l.length) (x : Nat × List UInt8) (y : Value) : lcells (l ++ [x]) (ys ++ [y]) = lcells l ys ++ [.int .i64 (x.1 : Int), y] := by
  unfold lcells
  rw [List.zipWith_append h.symm]
  simp

/-- the cells of the disk's rows -/
theorem RV.rows (h : RV w B p vs vl xs ys D) : (∀ g, vs.ownBlock = some g → ∀ i (hi : i < xs.length), w.cell? ⟨g, i, none⟩ = some xs[i] ∧ w.frozen? ⟨g, i, none⟩ = false) ∧
    (∀ g, vl.ownBlock = some g → ∀ i (hi : i < D.l.length) (hi2 : i < ys.length), w.cell? ⟨g, i * 2, none⟩ = some (.int .i64 (D.l[i].1 : Int)) ∧ w.cell? ⟨g, i * 2 + 1, none⟩ = some ys[i]) := by
  constructor
  · intro g hg i hi
    have hc := World.ownsRow.cells h.safe (g := g) hg i xs[i] (List.getElem?_eq_getElem hi)
    rw [Addr.add_mid, Nat.zero_add] at hc
    refine ⟨hc, ?_⟩
    obtain ⟨c, hcc⟩ := own_type h.safe hg
    simp [World.frozen?, hcc]
  · intro g hg i hi hi2
    obtain ⟨l0, l1⟩ := lcells_get D.l ys h.hy i hi
    have hc := World.ownsRow.cells h.l (g := g) hg (i * 2) _ l0
    have hc1 := World.ownsRow.cells h.l (g := g) hg (i * 2 + 1) ys[i] (by rw [l1]; exact List.getElem?_eq_getElem hi2)
    rw [Addr.add_mid, Nat.zero_add] at hc hc1
    exact ⟨hc, hc1⟩
end
end Go.Proofs.Ytdinnkacilgmmaa
