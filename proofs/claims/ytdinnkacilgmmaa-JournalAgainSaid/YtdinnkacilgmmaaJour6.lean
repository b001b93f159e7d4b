/- The journal: records in a row; Open. -/
import Derived.Test.YtdinnkacilgmmaaJour5
import Derived.Test.YtdinnkacilgmmaaRDisk0
namespace Go.Proofs.Ytdinnkacilgmmaa
open Go.RowKit

/-- the slice value v owns rows of bytes, each of which is owned -/
def OBB (w : World) (B : Nat) (v : Value) (ls : List (List UInt8)) (G : Nat → Prop) : Prop :=
  ∃ xs : List Value, w.ownsRow B 22 1 v xs.length xs ∧ xs.length = ls.length ∧ (∀ i (h : i < xs.length) (h2 : i < ls.length), OwnB w B xs[i] ls[i]) ∧ G = fun k => v.ownBlock = some k ∨ ∃ x ∈ xs, x.ownBlock = some k

theorem OBB.nil (w : World) (B : Nat) : OBB w B (.slice none 0 0) [] (fun _ => False) :=
  ⟨[], World.ownsRow_nil w B 22 1, rfl, fun i h => by simp at h, by funext k; simp [Value.ownBlock]⟩
theorem OBB.lt {w : World} {B : Nat} {v : Value} {ls : List (List UInt8)} {G : Nat → Prop} (h : OBB w B v ls G) : ∀ k, G k → B ≤ k ∧ k < w.heap.size := by
  obtain ⟨xs, h1, h2, h3, rfl⟩ := h
  rintro k (e | ⟨x, hx, e⟩)
  · exact World.ownsRow.lt h1 k e
  · obtain ⟨i, hi, rfl⟩ := List.getElem_of_mem hx
    exact World.ownsRow.lt (h3 i hi (by omega)) k e
theorem OBB.mod {F G : Nat → Prop} {w w' : World} {B : Nat} {v : Value} {ls : List (List UInt8)} (h : OBB w B v ls G) (hm : Mod F w w') (hF : ∀ k, G k → ¬ F k) : OBB w' B v ls G := by
  obtain ⟨xs, h1, h2, h3, rfl⟩ := h
  exact ⟨xs, owns_mod h1 hm (fun k hk => hF k (.inl hk)), h2, fun i hi hi2 => (h3 i hi hi2).mod hm (fun k hk => hF k (.inr ⟨_, List.getElem_mem hi, hk⟩)), rfl⟩
def BBT (B : Nat) (v : Value) (ls : List (List UInt8)) : Thg B := ⟨fun w F => OBB w B v ls F, fun h => h.lt, fun h hm hF => h.mod hm hF⟩
/-- a block of another kind is none of its blocks -/
theorem OBB.ne {w : World} {B : Nat} {v : Value} {ls : List (List UInt8)} {G : Nat → Prop} (h : OBB w B v ls G) {q : Nat} {C : Array Value} {t : TypeId} {fz : Nat × Nat} (hq : w.heap[q]? = some (.cells C t fz)) (h1 : t ≠ 22) (h2 : t ≠ 5) : ¬ G q := by
  obtain ⟨xs, k1, k2, k3, rfl⟩ := h
  rintro (e | ⟨x, hx, e⟩)
  · exact own_ne k1 hq h1 e
  · obtain ⟨i, hi, rfl⟩ := List.getElem_of_mem hx
    exact own_ne (k3 i hi (by omega)) hq h2 e
theorem OBB.shape {w : World} {B : Nat} {v : Value} {ls : List (List UInt8)} {G : Nat → Prop} (h : OBB w B v ls G) : ∃ a cap, v = .slice a ls.length cap ∧ ls.length ≤ cap ∧ cap ≤ maxLen := by
  obtain ⟨xs, h1, h2, -, -⟩ := h
  obtain ⟨a, cap, e, h3, h4, -⟩ := owns_shape h1
  rw [h2] at e h3
  exact ⟨a, cap, e, h3, h4⟩

/-- a row more -/
theorem OBB.push {w w3 : World} {B : Nat} {v v' x : Value} {ls : List (List UInt8)} {b : List UInt8} {G : Nat → Prop} {xs : List Value} {o : Obj}
    (h1 : w.ownsRow B 22 1 v xs.length xs) (h2 : xs.length = ls.length) (h3 : ∀ i (h : i < xs.length) (h2 : i < ls.length), OwnB w B xs[i] ls[i]) (hG : G = fun k => v.ownBlock = some k ∨ ∃ x ∈ xs, x.ownBlock = some k) (hx : OwnB w B x b)
    (k1 : w3.ownsRow B 22 1 v' (xs.length + 1) (xs ++ [x])) (k2 : Mod (fun k => some k = v.ownBlock) (w.alloc o) w3) (k3 : v'.ownBlock = v.ownBlock ∨ v'.ownBlock = some (w.alloc o).heap.size) :
    ∃ G', OBB w3 B v' (ls ++ [b]) G' ∧ ∀ k, G' k → G k ∨ x.ownBlock = some k ∨ w.heap.size ≤ k := by
  have m1 : Mod (fun _ => False) w (w.alloc o) := Mod.alloc _ _ _
  have keep : ∀ {u : Value} {l : List UInt8}, OwnB w B u l → OwnB w3 B u l := fun {u l} hu => by
    have hu' := hu.mod m1 (fun _ _ => id)
    refine hu'.mod k2 (fun k hk e => ?_)
    obtain ⟨c, hc⟩ := own_type hu' hk
    exact own_ne (owns_mod h1 m1 (fun _ _ => id)) hc (by decide) e.symm
  refine ⟨_, ⟨xs ++ [x], by rw [List.length_append]; exact k1, by simp [h2], fun i hi hi2 => ?_, rfl⟩, ?_⟩
  · by_cases e : i < xs.length
    · have e2 : i < ls.length := by omega
      simp only [List.getElem_append_left e, List.getElem_append_left e2]
      exact keep (h3 i e e2)
    · have : i = xs.length := by simp at hi; omega
      subst this
      simp only [List.getElem_append_right (Nat.le_refl _), List.getElem_append_right (show ls.length ≤ xs.length by omega)]
      simpa [h2] using keep hx
  · subst hG
    rintro k (e | ⟨y, hy, e⟩)
    · rcases k3 with e2 | e2
      · exact .inl (.inl (by rw [← e2]; exact e))
      · rw [e2] at e
        cases e
        exact .inr (.inr m1.size)
    · rcases List.mem_append.1 hy with hy | hy
      · exact .inl (.inr ⟨y, hy, e⟩)
      · rw [List.mem_singleton.1 hy] at e
        exact .inr (.inl e)

/-! ### what stands -/
theorem recGo_bounds (rd : Nat → Option (UInt8 × List UInt8)) (s : Nat) : ∀ (fuel n : Nat) (all : List UInt8) (b : List UInt8) (m : Nat), recGo rd s fuel n all = some (b, m) → n < m ∧ m ≤ n + fuel ∧ b.length ≤ 8192 := by
  intro fuel
  induction fuel with
  | zero => intro n all b m h; cases h
  | succ fuel ih =>
    intro n all b m h
    simp only [recGo] at h
    split at h
    · cases h
    · split at h
      · cases h
      · split at h
        · have := ih _ _ _ _ h
          omega
        · split at h
          · rename_i hc
            injection h with h
            injection h with h1 h2
            subst h1 h2
            rw [List.length_drop]
            omega
          · cases h
theorem rec_bounds {J : Jr} {D : Dsk} {s : Nat} {b : List UInt8} {n : Nat} (h : J.rec_ D s = some (b, n)) : 1 ≤ n ∧ s + n ≤ J.start + J.size ∧ b.length ≤ 8192 := by
  have h' := h
  unfold Jr.rec_ at h
  have := recGo_bounds _ _ _ _ _ _ _ h
  refine ⟨by omega, ?_, this.2.2⟩
  by_cases hs : s ≤ J.start + J.size
  · omega
  · have e : J.start + J.size - s = 0 := by omega
    rw [e] at h
    cases h

/-- the records that stand from s on, and the number behind them -/
def Jr.recs (J : Jr) (D : Dsk) : Nat → Nat → List (List UInt8) × Nat
  | 0, s => ([], s)
  | fuel + 1, s => match J.rec_ D s with
    | none => ([], s)
    | some (b, n) => (b :: (J.recs D fuel (s + n)).1, (J.recs D fuel (s + n)).2)
end Go.Proofs.Ytdinnkacilgmmaa
