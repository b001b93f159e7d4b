/- Bytes that grow beside other things. -/
import Derived.Test.YtdinnkacilgmmaaCopy
namespace Go.Proofs.Ytdinnkacilgmmaa
open Go.RowKit

section
variable {w : World} {ops : Array Oper} {rest : List Oper} {o : Oper} {a : Act} {Q : Exit → Act → World → Prop}
/-- append(v, r...) on bytes that are owned, and where the new slice lies -/
theorem appB_at (hgd : o.guard = none) (s x : Operand) (ho : o.op = .call { callee := .builtin .append, args := #[s, x], argTypes := #[22, 22] })
    (B : Nat) (v : Value) (l : List UInt8) (hs : a.eval s = v) (hown : OwnB w B v l)
    (ax : Option Addr) (m c : Nat) (r : List UInt8) (hx : a.eval x = .slice ax m c) (hm : r.length = m) (hc : ax = none → c = 0) (hr : BytesAt w ax r)
    (h47 : l.length + r.length ≤ 140737488355328) (hB : B ≤ w.heap.size)
    (h : ∀ v' w', OwnB w' B v' (l ++ r) → Mod (fun k => some k = v.ownBlock) w w' → (v'.ownBlock = v.ownBlock ∨ v'.ownBlock = some w.heap.size) → wpList Try.prog ops Q rest (a.put o.dst v') w') :
    wpList Try.prog ops Q (o :: rest) a w := by
  subst hm
  obtain ⟨i, hi, hz, hs1, hb1⟩ := info_parts info5
  cases ax with
  | none =>
    have hr0 : r = [] := by
      cases r with
      | nil => rfl
      | cons c r => obtain ⟨_, _, e, _⟩ := hr (by simp); cases e
    subst hr0
    have : c = 0 := hc rfl
    subst this
    refine wpList_append_own_none hgd s x 22 ho B 5 i 1 Try.underlying22 hi v _ _ hs hown hx ?_
    exact h v w (by simpa using hown) (Mod.refl _ _) (.inl rfl)
  | some ad =>
    have hnews : ∀ (j : Nat) u, (r.map byteV)[j]? = some u → w.cell? (ad.add j) = some u := by
      by_cases hl : r = []
      · subst hl; intro j u hu; simp at hu
      · obtain ⟨ad', e, h1⟩ := bytesAt_cells hr hl
        cases e; exact h1
    refine wpList_append_own_at w hgd s x 22 ho B 5 i _ 1 1 Try.underlying22 hi hz hs1 hb1 rfl (by decide) v l.length (l.map byteV) hs hown ad r.length c (r.map byteV) hx (by simp) hnews (bytes_oneCell r)
      (by unfold maxLen; omega) (by omega) hB ?_
    intro v' w' h1 h2 _ h3
    refine h v' w' ?_ (Mod.grown h2) h3
    unfold OwnB
    rw [List.length_append, List.map_append]
    exact h1
end

theorem Apart.grown {w0 w w' : World} {B : Nat} {Ts : List (Thg B)} {v v' : Value} {l l' : List UInt8} (h : Apart w0 B Ts w) (i : Nat) (hi : Ts[i]? = some (BytesT B v l)) (ho : OwnB w' B v' l') (hm : Mod (fun k => some k = v.ownBlock) w w')
    (hp : v'.ownBlock = v.ownBlock ∨ v'.ownBlock = some w.heap.size) : Apart w0 B (Ts.set i (BytesT B v' l')) w' := by
  obtain ⟨F, ⟨hF, rfl⟩, hup⟩ := h.turn i hi
  refine hup _ _ ⟨hm.mono (fun k _ e => e.symm), _, ⟨ho, rfl⟩, fun k hk => ?_⟩
  rcases hp with e | e
  · left; rw [← e]; exact hk
  · right
    rw [e] at hk
    cases hk
    exact Nat.le_refl _

/-- what is nothing yet -/
theorem Apart.bare {w0 w : World} {B : Nat} {Ts : List (Thg B)} (h : Apart w0 B Ts w) : Apart w0 B (Ts ++ [BytesT B (.slice none 0 0) []]) w :=
  h.more (BytesT B (.slice none 0 0) []) (Mod.refl _ _) ⟨OwnB.nil _ _, rfl⟩ (fun k hk => by simp [Value.ownBlock] at hk)

theorem take_sector (s : List UInt8) (n : Nat) : s.take (n * 256) ++ sector s n = s.take ((n + 1) * 256) := by
  unfold sector
  rw [Nat.add_mul, Nat.one_mul, List.take_add]
end Go.Proofs.Ytdinnkacilgmmaa
