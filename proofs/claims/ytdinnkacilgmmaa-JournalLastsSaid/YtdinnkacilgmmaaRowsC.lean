/- A slice of byte rows that the call gathers: rows of the arguments, or of its own memory. -/
import Derived.Test.YtdinnkacilgmmaaLaps
namespace Go.Proofs.Ytdinnkacilgmmaa
open Go.RowKit

/-- an element: bytes that lay there from the start, or bytes of a block among bs -/
def ElAt (w0 w : World) (bs : Nat → Prop) (x : Value) (l : List UInt8) : Prop := SlB w0 x l ∨ ∃ b off cap, x = .slice (some ⟨b, off, none⟩) l.length cap ∧ bs b ∧ BytesAt w (some ⟨b, off, none⟩) l
def AllAt (w0 : World) (B : Nat) (v : Value) (ls : List (List UInt8)) (w : World) (F : Nat → Prop) : Prop :=
  ∃ (xs : List Value) (bs : Nat → Prop), w.ownsRow B 22 1 v xs.length xs ∧ xs.length = ls.length ∧ (∀ i (h : i < xs.length) (h2 : i < ls.length), ElAt w0 w bs xs[i] ls[i]) ∧ (∀ k, bs k → B ≤ k ∧ k < w.heap.size) ∧ (∀ k, bs k → v.ownBlock ≠ some k) ∧ F = fun k => v.ownBlock = some k ∨ bs k

theorem ElAt.mod {F bs bs' : Nat → Prop} {w0 w w' : World} {x : Value} {l : List UInt8} (h : ElAt w0 w bs x l) (hm : Mod F w w') (hF : ∀ k, bs k → ¬ F k) (hb : ∀ k, bs k → bs' k) : ElAt w0 w' bs' x l := by
  rcases h with h | ⟨b, off, cap, e, h1, h2⟩
  · exact .inl h
  · exact .inr ⟨b, off, cap, e, hb b h1, h2.mod hm (fun y hy _ => by cases hy; exact hF b h1)⟩
def AllT (w0 : World) (B : Nat) (v : Value) (ls : List (List UInt8)) : Thg B := ⟨AllAt w0 B v ls,
  fun {w F} h k hk => by
    obtain ⟨xs, bs, h1, h2, h3, h4, h5, rfl⟩ := h
    rcases hk with e | e
    · exact World.ownsRow.lt h1 k e
    · exact h4 k e,
  fun {G w w' F} h hm hF => by
    obtain ⟨xs, bs, h1, h2, h3, h4, h5, rfl⟩ := h
    exact ⟨xs, bs, owns_mod h1 hm (fun k hk => hF k (.inl hk)), h2, fun i hi hi2 => (h3 i hi hi2).mod hm (fun k hk => hF k (.inr hk)) (fun _ => id), fun k hk => ⟨(h4 k hk).1, Nat.lt_of_lt_of_le (h4 k hk).2 hm.size⟩, h5, rfl⟩⟩

section
variable {w0 w : World} {Ts : List (Thg w0.heap.size)} {v : Value} {ls : List (List UInt8)}

theorem Apart.allNil (h : Apart w0 w0.heap.size Ts w) : Apart w0 w0.heap.size (Ts ++ [AllT w0 w0.heap.size (.slice none 0 0) []]) w :=
  h.more (AllT w0 w0.heap.size (.slice none 0 0) []) (Mod.refl _ _) ⟨[], fun _ => False, World.ownsRow_nil w _ 22 1, rfl, fun i h => by simp at h, fun k e => e.elim, fun k e => e.elim, rfl⟩ (fun k hk => hk.elim (fun e => by simp [Value.ownBlock] at e) (fun e => e.elim))
theorem Apart.allRd (h : Apart w0 w0.heap.size Ts w) (i : Nat) (hi : Ts[i]? = some (AllT w0 w0.heap.size v ls)) : ∃ a cap, v = .slice a ls.length cap ∧ RdBB w a ls := by
  obtain ⟨F, xs, bs, h1, h2, h3, h4, h5, -⟩ := h.get i hi
  obtain ⟨a, cap, e, -, -, -⟩ := owns_shape h1
  refine ⟨a, cap, by rw [← h2]; exact e, xs, h2, fun hne => ?_, fun i hi hi2 => ?_⟩
  · rcases h1.2 with ⟨e1, e2⟩ | ⟨g, cap', cur, e1, -, hg, -, -, -, hrow⟩
    · exact absurd (List.eq_nil_of_length_eq_zero e2) hne
    · rw [e] at e1
      cases e1
      refine ⟨g, 0, rfl, fun j hj => ?_⟩
      rw [cell_of_row w g (0 + j) cur 22 (0, 0) hg]
      have h8 := congrArg (fun x => x[j]?) hrow
      simp only [List.getElem?_take, Nat.mul_one, hj, if_true, Nat.zero_add] at h8 ⊢
      rw [← Array.getElem?_toList, h8, List.getElem?_eq_getElem hj]
  · rcases h3 i hi hi2 with h6 | ⟨b, off, cap, e, -, h6⟩
    · exact h6.below h.bel
    · exact ⟨_, cap, e, h6, fun e => by cases e⟩
/-- one of the arguments' rows more -/
theorem Apart.allPush (h : Apart w0 w0.heap.size Ts w) (i : Nat) (hi : Ts[i]? = some (AllT w0 w0.heap.size v ls)) :
    ∃ xs : List Value, w.ownsRow w0.heap.size 22 1 v xs.length xs ∧ xs.length = ls.length ∧ ∀ (o : Obj) (v' : Value) (w3 : World) (x : Value) (b : List UInt8), SlB w0 x b → w3.ownsRow w0.heap.size 22 1 v' (xs.length + 1) (xs ++ [x]) →
      Mod (fun k => some k = v.ownBlock) (w.alloc o) w3 → (v'.ownBlock = v.ownBlock ∨ v'.ownBlock = some (w.alloc o).heap.size) → Apart w0 w0.heap.size (Ts.set i (AllT w0 w0.heap.size v' (ls ++ [b]))) w3 := by
  obtain ⟨F, ⟨xs, bs, h1, h2, h3, h4, h5, rfl⟩, hup⟩ := h.turn i hi
  refine ⟨xs, h1, h2, fun o v' w3 x b hx k1 k2 k3 => hup _ _ ⟨?_, _, ⟨xs ++ [x], bs, by rw [List.length_append]; exact k1, by simp [h2], fun j hj hj2 => ?_, fun k hk => ?_, fun k hk e => ?_, rfl⟩, fun k hk => ?_⟩⟩
  · exact (Mod.alloc _ _ _).trans k2 (fun k _ e => .inl e.symm)
  · by_cases e : j < xs.length
    · have e2 : j < ls.length := by omega
      simp only [List.getElem_append_left e, List.getElem_append_left e2]
      exact ((h3 j e e2).mod (Mod.alloc (fun _ => False) w o) (fun _ _ => id) (fun _ => id)).mod k2 (fun k hk e => h5 k hk e.symm) (fun _ => id)
    · have : j = xs.length := by simp at hj; omega
      subst this
      simp only [List.getElem_append_right (Nat.le_refl _), List.getElem_append_right (show ls.length ≤ xs.length by omega)]
      refine .inl ?_
      simpa [h2] using hx
  · have hsz := k2.size
    simp only [World.size_alloc] at hsz
    exact ⟨(h4 k hk).1, by have := (h4 k hk).2; omega⟩
  · rcases k3 with e2 | e2
    · rw [e2] at e; exact h5 k hk e
    · rw [e2] at e
      cases e
      have := (h4 _ hk).2
      simp at this
      omega
  · rcases hk with e | e
    · rcases k3 with e2 | e2
      · exact .inl (.inl (by rw [← e2]; exact e))
      · rw [e2] at e
        cases e
        exact .inr (by simp)
    · exact .inl (.inr e)
end
end Go.Proofs.Ytdinnkacilgmmaa
