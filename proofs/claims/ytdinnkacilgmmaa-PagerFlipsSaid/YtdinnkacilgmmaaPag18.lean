/- Roots in variables, and an array of slices, as things. -/
import Derived.Test.YtdinnkacilgmmaaPag17
import Derived.Test.YtdinnkacilgmmaaLift5
namespace Go.Proofs.Ytdinnkacilgmmaa
open Go.RowKit

/-- a root in a variable, with bytes of the call's own -/
def RootT (B k : Nat) (R : Rt) : Thg B :=
  ⟨fun w F => ∃ a c, w.heap[k]? = some (.cells #[.int .i64 (R.gen : Int), .int .i64 R.page, .int .i64 (R.next : Int), .slice a R.mt.length c] 95 (0, 0)) ∧ B ≤ k ∧ OwnB w B (.slice a R.mt.length c) R.mt ∧ (Value.slice a R.mt.length c).ownBlock ≠ some k ∧ F = fun j => j = k ∨ (Value.slice a R.mt.length c).ownBlock = some j,
  fun {w F} h j hj => by
    obtain ⟨a, c, h1, h2, h3, h4, rfl⟩ := h
    rcases hj with rfl | hj
    · exact ⟨h2, lt_of_block h1⟩
    · exact World.ownsRow.lt h3 j hj,
  fun {G w w' F} h hm hF => by
    obtain ⟨a, c, h1, h2, h3, h4, rfl⟩ := h
    exact ⟨a, c, hm.obj h1 (hF k (.inl rfl)), h2, h3.mod hm (fun j hj => hF j (.inr hj)), h4, rfl⟩⟩
/-- a root in a variable, whatever it is -/
def AnyRootT (B k : Nat) : Thg B := ⟨fun w F => (∃ x0 x1 x2 x3, w.heap[k]? = some (.cells #[x0, x1, x2, x3] 95 (0, 0))) ∧ B ≤ k ∧ F = fun j => j = k,
  fun {w F} h j hj => by obtain ⟨⟨_, _, _, _, h1⟩, h2, rfl⟩ := h; subst hj; exact ⟨h2, lt_of_block h1⟩,
  fun {G w w' F} h hm hF => by obtain ⟨⟨_, _, _, _, h1⟩, h2, rfl⟩ := h; exact ⟨⟨_, _, _, _, hm.obj h1 (hF k rfl)⟩, h2, rfl⟩⟩
/-- an array of seven slices of the arguments' bytes -/
def WasT (w0 : World) (B k : Nat) (was : Nat → List UInt8) : Thg B := ⟨fun w F => (∃ xs : List Value, xs.length = 7 ∧ w.heap[k]? = some (.cells xs.toArray 105 (0, 0)) ∧ ∀ n, n < 7 → ∃ x, xs[n]? = some x ∧ SlB w0 x (was n)) ∧ B ≤ k ∧ F = fun j => j = k,
  fun {w F} h j hj => by obtain ⟨⟨_, _, h1, _⟩, h2, rfl⟩ := h; subst hj; exact ⟨h2, lt_of_block h1⟩,
  fun {G w w' F} h hm hF => by obtain ⟨⟨xs, h0, h1, h3⟩, h2, rfl⟩ := h; exact ⟨⟨xs, h0, hm.obj h1 (hF k rfl), h3⟩, h2, rfl⟩⟩

section
variable {w0 w : World} {B : Nat} {Ts : List (Thg B)} {R : Rt}

/-- a new variable for a root -/
theorem Apart.rootNew (h : Apart w0 B Ts w) (i : Nat) {a : Option Addr} {c : Nat} (hi : Ts[i]? = some (BytesT B (.slice a R.mt.length c) R.mt)) :
    Apart w0 B (Ts.set i (RootT B w.heap.size R)) (w.alloc (.cells #[.int .i64 (R.gen : Int), .int .i64 R.page, .int .i64 (R.next : Int), .slice a R.mt.length c] 95)) := by
  obtain ⟨F, ⟨ho, rfl⟩, hup⟩ := h.turn i hi
  have hm : ∀ G, Mod G w (w.alloc (.cells #[.int .i64 (R.gen : Int), .int .i64 R.page, .int .i64 (R.next : Int), .slice a R.mt.length c] 95)) := fun G => Mod.alloc _ _ _
  refine hup _ _ ⟨hm _, _, ⟨a, c, heap_alloc_new _ _, h.le, ho.mod (hm (fun _ => False)) (fun _ _ => id), fun e => ?_, rfl⟩, fun k hk => ?_⟩
  · have := (World.ownsRow.lt ho _ e).2; omega
  · rcases hk with rfl | hk
    · exact .inr (Nat.le_refl _)
    · exact .inl hk
theorem Apart.root (h : Apart w0 B Ts w) (i : Nat) {k : Nat} (hi : Ts[i]? = some (RootT B k R)) : ∃ a c, w.heap[k]? = some (.cells #[.int .i64 (R.gen : Int), .int .i64 R.page, .int .i64 (R.next : Int), .slice a R.mt.length c] 95 (0, 0)) ∧ BytesAt w a R.mt := by
  obtain ⟨F, a, c, h1, -, h3, -⟩ := h.get i hi
  obtain ⟨a', c', e, -, -, hb⟩ := h3.shape
  cases e
  exact ⟨a, c, h1, hb⟩
/-- another root in it -/
theorem Apart.rootSet {S : Rt} (h : Apart w0 B Ts w) (i j : Nat) {k : Nat} (hi : Ts[i]? = some (RootT B k R)) {a : Option Addr} {c : Nat} (hj : Ts[j]? = some (BytesT B (.slice a S.mt.length c) S.mt)) (hij : i ≠ j) :
    (∃ y0 y1 y2 y3, w.heap[k]? = some (.cells #[y0, y1, y2, y3] 95 (0, 0))) ∧ Apart w0 B ((Ts.set i (RootT B k S)).set j (NilT B)) ((((w.setCell ⟨k, 0, none⟩ (.int .i64 (S.gen : Int))).setCell ⟨k, 1, none⟩ (.int .i64 S.page)).setCell ⟨k, 2, none⟩ (.int .i64 (S.next : Int))).setCell ⟨k, 3, none⟩ (.slice a S.mt.length c)) := by
  obtain ⟨Fs, h1, h2, hlt, hup⟩ := h.turn2v i j hi hj hij
  obtain ⟨a0, c0, k1, k2, k3, k4, k5⟩ := h1 i _ hi
  obtain ⟨ho, k6⟩ := h1 j _ hj
  have hil : i < Ts.length := (List.getElem?_eq_some_iff.1 hi).1
  have hjl : j < Ts.length := (List.getElem?_eq_some_iff.1 hj).1
  have hk : Fs i k := by rw [k5]; exact .inl rfl
  have hne : (Value.slice a S.mt.length c).ownBlock ≠ some k := fun e => h2 j i hjl hil hij.symm k (by rw [k6]; exact e) hk
  have m4 := mod4 (F := fun j => j = k) w k rfl (.int .i64 (S.gen : Int)) (.int .i64 S.page) (.int .i64 (S.next : Int)) (.slice a S.mt.length c)
  refine ⟨⟨_, _, _, _, k1⟩, hup _ _ _ (m4.mono (fun x _ e => by subst e; exact .inl hk)) ⟨a, c, set4 k1 _ _ _ _, k2, ho.mod m4 (fun x hx e => hne (by rw [← e]; exact hx)), hne, rfl⟩ (fun x hx => ?_)⟩
  rcases hx with rfl | hx
  · exact .inl (.inl hk)
  · exact .inl (.inr (by rw [k6]; exact hx))
theorem Apart.anyRoot (h : Apart w0 B Ts w) (i : Nat) {k : Nat} (hi : Ts[i]? = some (AnyRootT B k)) (x0 x1 x2 x3 : Value) :
    (∃ y0 y1 y2 y3, w.heap[k]? = some (.cells #[y0, y1, y2, y3] 95 (0, 0))) ∧ Apart w0 B (Ts.set i (AnyRootT B k)) ((((w.setCell ⟨k, 0, none⟩ x0).setCell ⟨k, 1, none⟩ x1).setCell ⟨k, 2, none⟩ x2).setCell ⟨k, 3, none⟩ x3) := by
  obtain ⟨F, ⟨⟨y0, y1, y2, y3, h1⟩, h2, rfl⟩, hup⟩ := h.turn i hi
  exact ⟨⟨_, _, _, _, h1⟩, hup _ _ ⟨mod4 (F := fun j => j = k) w k rfl _ _ _ _, _, ⟨⟨_, _, _, _, set4 h1 _ _ _ _⟩, h2, rfl⟩, fun k hk => .inl hk⟩⟩
theorem Apart.anyRootNew (h : Apart w0 B Ts w) (x0 x1 x2 x3 : Value) : Apart w0 B (Ts ++ [AnyRootT B w.heap.size]) (w.alloc (.cells #[x0, x1, x2, x3] 95)) :=
  h.more (AnyRootT B w.heap.size) (Mod.alloc _ _ _) ⟨⟨_, _, _, _, heap_alloc_new _ _⟩, h.le, rfl⟩ (fun k hk => by rw [hk]; exact Nat.le_refl _)
theorem Apart.wasNew (h : Apart w0 B Ts w) (C : Array Value) (hC : C = (List.replicate 7 (Value.slice none 0 0)).toArray) : Apart w0 B (Ts ++ [WasT w0 B w.heap.size (fun _ => [])]) (w.alloc (.cells C 105)) := by
  refine h.more (WasT w0 B w.heap.size (fun _ => [])) (Mod.alloc _ _ _) ⟨⟨List.replicate 7 (.slice none 0 0), by simp, by rw [hC]; exact heap_alloc_new _ _, fun n hn => ⟨.slice none 0 0, by rw [List.getElem?_replicate, if_pos hn], none, 0, rfl, BytesAt.nil _ _, fun _ => rfl⟩⟩, h.le, rfl⟩ (fun k hk => by rw [hk]; exact Nat.le_refl _)
theorem Apart.was (h : Apart w0 B Ts w) (i : Nat) {k : Nat} {was : Nat → List UInt8} (hi : Ts[i]? = some (WasT w0 B k was)) (n : Nat) (hn : n < 7) : ∃ x, w.cell? ⟨k, n, none⟩ = some x ∧ SlB w0 x (was n) := by
  obtain ⟨F, ⟨xs, h0, h1, h3⟩, -, -⟩ := h.get i hi
  obtain ⟨x, e, hx⟩ := h3 n hn
  exact ⟨x, by rw [cell_of_row w k n _ 105 (0, 0) h1, List.getElem?_toArray]; exact e, hx⟩
theorem Apart.wasFz (h : Apart w0 B Ts w) (i : Nat) {k : Nat} {was : Nat → List UInt8} (hi : Ts[i]? = some (WasT w0 B k was)) (n : Nat) : w.frozen? ⟨k, n, none⟩ = false := by
  obtain ⟨F, ⟨xs, h0, h1, h3⟩, -, -⟩ := h.get i hi
  exact thaw_of (i := n) h1
theorem Apart.wasSet (h : Apart w0 B Ts w) (i : Nat) {k : Nat} {was : Nat → List UInt8} (hi : Ts[i]? = some (WasT w0 B k was)) (n : Nat) (hn : n < 7) (x : Value) (b : List UInt8) (hx : SlB w0 x b) : Apart w0 B (Ts.set i (WasT w0 B k (fun m => if m = n then b else was m))) (w.setCell ⟨k, n, none⟩ x) := by
  obtain ⟨F, ⟨⟨xs, h0, h1, h3⟩, h2, rfl⟩, hup⟩ := h.turn i hi
  refine hup _ _ ⟨Mod.setCell _ _ _ rfl, _, ⟨⟨xs.set n x, by rw [List.length_set]; exact h0, ?_, fun m hm => ?_⟩, h2, rfl⟩, fun k hk => .inl hk⟩
  · rw [setCell_block h1]
    simp
  · by_cases e : m = n
    · subst e
      exact ⟨x, by rw [List.getElem?_set_self (by omega)], by show SlB w0 x (if m = m then b else was m); rw [if_pos rfl]; exact hx⟩
    · rw [List.getElem?_set_ne (Ne.symm e)]
      show ∃ x, xs[m]? = some x ∧ SlB w0 x (if m = n then b else was m)
      rw [if_neg e]
      exact h3 m hm
end
end Go.Proofs.Ytdinnkacilgmmaa
