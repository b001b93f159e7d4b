/- Views of bytes, and slices of them, as things; numbers that are gathered. -/
import Derived.Test.YtdinnkacilgmmaaPag16
namespace Go.Proofs.Ytdinnkacilgmmaa
open Go.RowKit

/-- nothing -/
def NilT (B : Nat) : Thg B := ⟨fun _ F => F = fun _ => False, fun {w F} h k hk => by subst h; exact hk.elim, fun {G w w' F} h _ _ => h⟩
/-- bytes that are seen through a slice, in a block of the call's own -/
def ViewT (B : Nat) (v : Value) (l : List UInt8) : Thg B :=
  ⟨fun w F => ∃ a cap, v = .slice a l.length cap ∧ BytesAt w a l ∧ l.length ≤ cap ∧ (a = none → l = [] ∧ cap = 0) ∧ (∀ x, a = some x → B ≤ x.block ∧ x.block < w.heap.size) ∧ F = fun k => ∃ x, a = some x ∧ k = x.block,
  fun {w F} h k hk => by
    obtain ⟨a, cap, -, -, -, -, h5, rfl⟩ := h
    obtain ⟨x, e, rfl⟩ := hk
    exact h5 x e,
  fun {G w w' F} h hm hF => by
    obtain ⟨a, cap, h1, h2, h3, h4, h5, rfl⟩ := h
    exact ⟨a, cap, h1, h2.mod hm (fun x hx _ => hF _ ⟨x, hx, rfl⟩), h3, h4, fun x hx => ⟨(h5 x hx).1, Nat.lt_of_lt_of_le (h5 x hx).2 hm.size⟩, rfl⟩⟩
/-- a slice of such -/
def VwsAt (B : Nat) (v : Value) (ls : List (List UInt8)) (w : World) (F : Nat → Prop) : Prop :=
  ∃ (xs : List Value) (bs : Nat → Prop), w.ownsRow B 22 1 v xs.length xs ∧ xs.length = ls.length ∧ (∀ i (h : i < xs.length) (h2 : i < ls.length), ∃ a cap, xs[i] = .slice a ls[i].length cap ∧ BytesAt w a ls[i] ∧ ∀ x, a = some x → bs x.block) ∧ (∀ k, bs k → B ≤ k ∧ k < w.heap.size) ∧ (∀ k, bs k → v.ownBlock ≠ some k) ∧ F = fun k => v.ownBlock = some k ∨ bs k
def VwsT (B : Nat) (v : Value) (ls : List (List UInt8)) : Thg B := ⟨VwsAt B v ls,
  fun {w F} h k hk => by
    obtain ⟨xs, bs, h1, h2, h3, h4, h5, rfl⟩ := h
    rcases hk with e | e
    · exact World.ownsRow.lt h1 k e
    · exact h4 k e,
  fun {G w w' F} h hm hF => by
    obtain ⟨xs, bs, h1, h2, h3, h4, h5, rfl⟩ := h
    refine ⟨xs, bs, owns_mod h1 hm (fun k hk => hF k (.inl hk)), h2, fun i hi hi2 => ?_, fun k hk => ⟨(h4 k hk).1, Nat.lt_of_lt_of_le (h4 k hk).2 hm.size⟩, h5, rfl⟩
    obtain ⟨a, cap, e1, e2, e3⟩ := h3 i hi hi2
    exact ⟨a, cap, e1, e2.mod hm (fun x hx _ => hF _ (.inr (e3 x hx))), e3⟩⟩

/-- one swallows another -/
theorem Apart.turn2v {w0 w : World} {B : Nat} {Ts : List (Thg B)} (h : Apart w0 B Ts w) (i j : Nat) {S T : Thg B} (hi : Ts[i]? = some S) (hj : Ts[j]? = some T) (hij : i ≠ j) :
    ∃ Fs : Nat → Nat → Prop, (∀ (n : Nat) (U : Thg B), Ts[n]? = some U → U.at_ w (Fs n)) ∧ (∀ a b, a < Ts.length → b < Ts.length → a ≠ b → ∀ k, Fs a k → ¬ Fs b k) ∧ (∀ n k, n < Ts.length → Fs n k → k < w.heap.size) ∧
      ∀ (S' : Thg B) (w' : World) (F' : Nat → Prop), Mod (fun k => Fs i k ∨ Fs j k) w w' → S'.at_ w' F' → (∀ k, F' k → (Fs i k ∨ Fs j k) ∨ w.heap.size ≤ k) → Apart w0 B ((Ts.set i S').set j (NilT B)) w' := by
  obtain ⟨Fs, h1, h2⟩ := h.own
  have hil : i < Ts.length := (List.getElem?_eq_some_iff.1 hi).1
  have hjl : j < Ts.length := (List.getElem?_eq_some_iff.1 hj).1
  have lt : ∀ n k, n < Ts.length → Fs n k → k < w.heap.size := fun n k hn hk => ((Ts[n]).lt (h1 n _ (List.getElem?_eq_getElem hn)) k hk).2
  refine ⟨Fs, h1, h2, lt, fun S' w' F' hm hS' hF => ⟨h.bel.trans (hm.below (fun k hk => hk.elim (fun e => (S.lt (h1 i S hi) k e).1) (fun e => (T.lt (h1 j T hj) k e).1)) h.le), Nat.le_trans h.le hm.size, fun n => if n = j then fun _ => False else if n = i then F' else Fs n, ?_, ?_⟩⟩
  · intro n U hn
    by_cases ej : n = j
    · subst ej
      simp only [if_true]
      rw [List.getElem?_set_self (by rw [List.length_set]; exact hjl)] at hn
      cases hn
      rfl
    · simp only [if_neg ej]
      rw [List.getElem?_set_ne (Ne.symm ej)] at hn
      by_cases ei : n = i
      · subst ei
        simp only [if_true]
        rw [List.getElem?_set_self hil] at hn
        cases hn
        exact hS'
      · simp only [if_neg ei]
        rw [List.getElem?_set_ne (Ne.symm ei)] at hn
        have hnl : n < Ts.length := (List.getElem?_eq_some_iff.1 hn).1
        exact U.mod (h1 n U hn) hm (fun k hk e => e.elim (h2 n i hnl hil ei k hk) (h2 n j hnl hjl ej k hk))
  · intro a b ha hb hab k hk hk'
    rw [List.length_set, List.length_set] at ha hb
    have old : ∀ n, n < Ts.length → n ≠ i → n ≠ j → Fs n k → ¬ F' k := fun n hn e1 e2 hk e => by
      have := lt n k hn hk
      rcases hF k e with (e | e) | e
      · exact h2 n i hn hil e1 k hk e
      · exact h2 n j hn hjl e2 k hk e
      · omega
    by_cases ea : a = j
    · rw [if_pos ea] at hk; exact hk
    · rw [if_neg ea] at hk
      by_cases eb : b = j
      · rw [if_pos eb] at hk'; exact hk'
      · rw [if_neg eb] at hk'
        by_cases ea2 : a = i
        · rw [if_pos ea2] at hk
          rw [if_neg (by omega)] at hk'
          exact old b hb (by omega) eb hk' hk
        · rw [if_neg ea2] at hk
          by_cases eb2 : b = i
          · rw [if_pos eb2] at hk'
            exact old a ha ea2 ea hk hk'
          · rw [if_neg eb2] at hk'
            exact h2 a b ha hb hab k hk hk'

section
variable {w0 w : World} {B q p : Nat} {Ts : List (Thg B)} {P : Pgr} {D : Dsk} {v : Value} {ls : List (List UInt8)}

theorem Apart.preadT (h : Apart w0 B Ts w) (i d : Nat) (hi : Ts[i]? = some (PT B q p P)) (hd : Ts[d]? = some (DiskT B p D)) (hfit : P.frm + 2 + P.pages ≤ D.N) (n : Int) :
    Calls Try.prog 67 #[.pointer (some ⟨q, 0, none⟩), .int .i64 n] w fun e w' => ∃ v, e = .returned (.tuple #[v, .int .i64 (P.read D n).2]) ∧ Apart w0 B (Ts ++ [ViewT B v (P.read D n).1]) w' := by
  refine (h.pread i d hi hd hfit n).mono ?_
  rintro e w' ⟨v, he, ⟨a, cap, h1, h2, h3, h4, h5⟩, hm⟩
  refine ⟨v, he, h.more (ViewT B v (P.read D n).1) hm ⟨a, cap, h1, h2, h4, h3, fun x hx => ⟨Nat.le_trans h.le (h5 x hx).1, (h5 x hx).2⟩, rfl⟩ (fun k hk => ?_)⟩
  obtain ⟨x, e, rfl⟩ := hk
  exact (h5 x e).1
theorem Apart.view (h : Apart w0 B Ts w) (i : Nat) {l : List UInt8} (hi : Ts[i]? = some (ViewT B v l)) : ∃ a cap, v = .slice a l.length cap ∧ BytesAt w a l ∧ l.length ≤ cap := by
  obtain ⟨F, a, cap, h1, h2, h3, -⟩ := h.get i hi
  exact ⟨a, cap, h1, h2, h3⟩
theorem Apart.vwsNil (h : Apart w0 B Ts w) : Apart w0 B (Ts ++ [VwsT B (.slice none 0 0) []]) w :=
  h.more (VwsT B (.slice none 0 0) []) (Mod.refl _ _) ⟨[], fun _ => False, World.ownsRow_nil w _ 22 1, rfl, fun i h => by simp at h, fun k e => e.elim, fun k e => e.elim, rfl⟩ (fun k hk => hk.elim (fun e => by simp [Value.ownBlock] at e) (fun e => e.elim))
theorem Apart.intsNil (h : Apart w0 B Ts w) : Apart w0 B (Ts ++ [IntsT B (.slice none 0 0) []]) w :=
  h.more (IntsT B (.slice none 0 0) []) (Mod.refl _ _) ⟨World.ownsRow_nil w _ 3 1, rfl⟩ (fun k hk => by simp [Value.ownBlock] at hk)
theorem Apart.ints (h : Apart w0 B Ts w) (i : Nat) {l : List Int} (hi : Ts[i]? = some (IntsT B v l)) : ∃ a cap, v = .slice a l.length cap ∧ l.length ≤ cap ∧ IntsAt w a l := by
  obtain ⟨F, h1, -⟩ := h.get i hi
  obtain ⟨a, cap, e1, e2, e3, -⟩ := ownsInts_at h1
  exact ⟨a, cap, e1, e2, e3⟩
/-- a number more -/
theorem Apart.intsPush (h : Apart w0 B Ts w) (i : Nat) {l : List Int} (hi : Ts[i]? = some (IntsT B v l)) :
    w.ownsRow B 3 1 v l.length (l.map fun n => .int .i64 n) ∧ ∀ (o : Obj) (v' : Value) (w3 : World) (n : Int), w3.ownsRow B 3 1 v' (l.length + 1) ((l.map fun n => .int .i64 n) ++ [.int .i64 n]) →
      Mod (fun k => some k = v.ownBlock) (w.alloc o) w3 → (v'.ownBlock = v.ownBlock ∨ v'.ownBlock = some (w.alloc o).heap.size) → Apart w0 B (Ts.set i (IntsT B v' (l ++ [n]))) w3 := by
  obtain ⟨F, ⟨h1, rfl⟩, hup⟩ := h.turn i hi
  refine ⟨h1, fun o v' w3 n k1 k2 k3 => hup _ _ ⟨?_, _, ⟨by rw [List.length_append, List.map_append]; exact k1, rfl⟩, fun k hk => ?_⟩⟩
  · exact (Mod.alloc _ _ _).trans k2 (fun k _ e => e.symm)
  · rcases k3 with e2 | e2
    · exact .inl (by rw [← e2]; exact hk)
    · rw [e2] at hk
      cases hk
      exact .inr (by simp)
/-- a view more -/
theorem Apart.vwsPush (h : Apart w0 B Ts w) (i j : Nat) (hi : Ts[i]? = some (VwsT B v ls)) {x : Value} {l : List UInt8} (hj : Ts[j]? = some (ViewT B x l)) (hij : i ≠ j) :
    ∃ xs : List Value, w.ownsRow B 22 1 v xs.length xs ∧ xs.length = ls.length ∧ ∀ (o : Obj) (v' : Value) (w3 : World), w3.ownsRow B 22 1 v' (xs.length + 1) (xs ++ [x]) →
      Mod (fun k => some k = v.ownBlock) (w.alloc o) w3 → (v'.ownBlock = v.ownBlock ∨ v'.ownBlock = some (w.alloc o).heap.size) → Apart w0 B ((Ts.set i (VwsT B v' (ls ++ [l]))).set j (NilT B)) w3 := by
  obtain ⟨Fs, h1, h2, hlt, hup⟩ := h.turn2v i j hi hj hij
  obtain ⟨xs, bs, k1, k2, k3, k4, k5, k6⟩ := h1 i _ hi
  obtain ⟨a, cap, e1, e2, e3, -, e4, e5⟩ := h1 j _ hj
  have hil : i < Ts.length := (List.getElem?_eq_some_iff.1 hi).1
  have hjl : j < Ts.length := (List.getElem?_eq_some_iff.1 hj).1
  have hx : ∀ y, a = some y → ¬ Fs i y.block := fun y hy => h2 j i hjl hil hij.symm _ (by rw [e5]; exact ⟨y, hy, rfl⟩)
  refine ⟨xs, k1, k2, fun o v' w3 o1 o2 o3 => hup _ w3 (fun k => v'.ownBlock = some k ∨ bs k ∨ ∃ y, a = some y ∧ k = y.block) ?_ ⟨xs ++ [x], fun k => bs k ∨ ∃ y, a = some y ∧ k = y.block, by rw [List.length_append]; exact o1, by simp [k2], fun m hm hm2 => ?_, fun k hk => ?_, fun k hk e => ?_, rfl⟩ (fun k hk => ?_)⟩
  · exact (Mod.alloc _ _ _).trans o2 (fun k _ e => by rw [k6]; exact .inl (.inl e.symm))
  · have hsz : ∀ k, k < w.heap.size → k < (w.alloc o).heap.size := fun k hk => by simp; omega
    by_cases e : m < xs.length
    · have e' : m < ls.length := by omega
      simp only [List.getElem_append_left e, List.getElem_append_left e']
      obtain ⟨a', c', f1, f2, f3⟩ := k3 m e e'
      exact ⟨a', c', f1, (f2.mod (Mod.alloc (fun _ => False) w o) (fun _ _ _ => id)).mod o2 (fun y hy _ e => k5 _ (f3 y hy) e.symm), fun y hy => .inl (f3 y hy)⟩
    · have : m = xs.length := by simp at hm; omega
      subst this
      have q1 : (xs ++ [x])[xs.length]'hm = x := by simp
      have q2 : (ls ++ [l])[xs.length]'hm2 = l := by simp [k2]
      rw [q1, q2]
      exact ⟨a, cap, e1, (e2.mod (Mod.alloc (fun _ => False) w o) (fun _ _ _ => id)).mod o2 (fun y hy _ e => hx y hy (by rw [k6]; exact .inl e.symm)), fun y hy => .inr ⟨y, hy, rfl⟩⟩
  · have hsz := o2.size
    simp only [World.size_alloc] at hsz
    rcases hk with hk | ⟨y, hy, rfl⟩
    · exact ⟨(k4 k hk).1, by have := (k4 k hk).2; omega⟩
    · exact ⟨(e4 y hy).1, by have := (e4 y hy).2; omega⟩
  · rcases o3 with e6 | e6
    · rw [e6] at e
      rcases hk with hk | ⟨y, hy, rfl⟩
      · exact k5 k hk e
      · exact hx y hy (by rw [k6]; exact .inl e)
    · rw [e6] at e
      cases e
      rcases hk with hk | ⟨y, hy, e7⟩
      · have := (k4 _ hk).2; simp at this; omega
      · have := (e4 y hy).2; simp at e7; omega
  · rcases hk with e | e
    · rcases o3 with e6 | e6
      · exact .inl (.inl (by rw [k6]; exact .inl (by rw [← e6]; exact e)))
      · rw [e6] at e; cases e; exact .inr (by simp)
    · rcases e with e | e
      · exact .inl (.inl (by rw [k6]; exact .inr e))
      · exact .inl (.inr (by rw [e5]; exact e))
/-- the slice's cells, and its rows -/
theorem Apart.vws (h : Apart w0 B Ts w) (i : Nat) (hi : Ts[i]? = some (VwsT B v ls)) : ∃ a cap, v = .slice a ls.length cap ∧ ls.length ≤ cap ∧ ∀ k, k < ls.length → ∃ g a' c', a = some ⟨g, 0, none⟩ ∧ ∃ l, ls[k]? = some l ∧ w.cell? ⟨g, k, none⟩ = some (.slice a' l.length c') ∧ BytesAt w a' l := by
  obtain ⟨F, xs, bs, h1, h2, h3, -⟩ := h.get i hi
  obtain ⟨a, cap, e, hle, -, -⟩ := owns_shape h1
  refine ⟨a, cap, by rw [← h2]; exact e, by omega, fun k hk => ?_⟩
  have hkx : k < xs.length := by omega
  obtain ⟨a', c', e1, e2, -⟩ := h3 k hkx hk
  rcases h1.2 with ⟨-, f2⟩ | ⟨g, cap', cur, f1, -, hg, -, -, -, hrow⟩
  · omega
  · rw [e] at f1
    cases f1
    refine ⟨g, a', c', rfl, ls[k], List.getElem?_eq_getElem hk, ?_, e2⟩
    rw [cell_of_row w g k cur 22 (0, 0) hg, ← e1]
    have h8 := congrArg (fun x => x[k]?) hrow
    simp only [List.getElem?_take, Nat.mul_one, hkx, if_true] at h8
    rw [← Array.getElem?_toList, h8, List.getElem?_eq_getElem hkx]
end
end Go.Proofs.Ytdinnkacilgmmaa
