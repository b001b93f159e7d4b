/- DiskSafe: the plain law, and a slice of operations that the call owns. -/
import Derived.Test.YtdinnkacilgmmaaGrow
import Derived.Maps.AppendAt
namespace Go.Proofs.Ytdinnkacilgmmaa
open Go.RowKit

/-! ### the plain law -/
theorem splice_get (s : List UInt8) (off : Nat) (b : List UInt8) (h : off + b.length ≤ s.length) (i : Nat) :
    (splice s off b)[i]? = if off ≤ i ∧ i < off + b.length then b[i - off]? else s[i]? := by
  unfold splice
  rw [List.getElem?_append, List.length_take, Nat.min_eq_left (by omega)]
  by_cases h1 : i < off
  · rw [if_pos h1, if_neg (by omega), List.getElem?_take, if_pos h1]
  · rw [if_neg h1, List.getElem?_append]
    by_cases h2 : i - off < b.length
    · rw [if_pos h2, if_pos (by omega)]
    · rw [if_neg h2, if_neg (by omega), List.getElem?_drop]
      congr 1
      omega

/-- a byte behind a crash is that of the image, or that of some write of its sector -/
theorem crashed_byte : ∀ (l : List (Nat × List UInt8)) (s : List UInt8) (ks : List Int), (∀ x ∈ l, x.1 * 256 + x.2.length ≤ s.length ∧ x.2.length = 256) → ∀ i,
    (crashed s l ks)[i]? = s[i]? ∨ ∃ x ∈ l, x.1 = i / 256 ∧ (crashed s l ks)[i]? = x.2[i % 256]? := by
  intro l
  induction l with
  | nil => intro s ks _ i; exact .inl rfl
  | cons x r ih =>
    intro s ks h i
    have hx := h x List.mem_cons_self
    have hl := lay_length s x.1 (x.2.take (clamp (ks.headD 0))) (by rw [List.length_take]; omega)
    have ih' := ih (lay s x.1 (x.2.take (clamp (ks.headD 0)))) ks.tail (fun y hy => by rw [hl]; exact h y (List.mem_cons_of_mem _ hy)) i
    show (crashed (lay s x.1 (x.2.take (clamp (ks.headD 0)))) r ks.tail)[i]? = _ ∨ _
    rcases ih' with e | ⟨y, hy, e1, e2⟩
    · rw [show (crashed s (x :: r) ks)[i]? = (crashed (lay s x.1 (x.2.take (clamp (ks.headD 0)))) r ks.tail)[i]? from rfl]
      rw [e]
      unfold lay
      rw [splice_get _ _ _ (by rw [List.length_take]; omega)]
      split
      · rename_i hc
        rw [List.length_take] at hc
        refine .inr ⟨x, List.mem_cons_self, by omega, ?_⟩
        rw [List.getElem?_take, if_pos (by omega)]
        congr 1
        omega
      · exact .inl rfl
    · exact .inr ⟨y, List.mem_cons_of_mem _ hy, e1, e2⟩

theorem sect_get (b : List UInt8) (j : Nat) (hj : j < 256) : (sect b)[j]? = some (b.getD j 0) := by
  unfold sect
  rw [List.getElem?_append]
  by_cases h : j < b.length
  · rw [if_pos h]
    simp [List.getD_eq_getElem?_getD, List.getElem?_eq_getElem h]
  · rw [if_neg h]
    rw [List.getElem?_replicate, if_pos (by omega), List.getD_eq_getElem?_getD, List.getElem?_eq_none (by omega : b.length ≤ j)]
    rfl

/-- the writes of some operations -/
def wrs (l : List OpV) : List (Nat × List UInt8) := l.map fun o => (o.n.toNat, sect o.b)
/-- an operation hits a byte -/
def hits (c : UInt8) (i : Nat) (o : OpV) : Bool := o.n == ((i / 256 : Nat) : Int) && o.b.getD (i % 256) 0 == c

theorem safe_plain (s : List UInt8) (l : List OpV) (ks : List Int) (hs : s.length = 6 * 256) (hl : ∀ o ∈ l, 0 ≤ o.n ∧ o.n < 6 ∧ o.b.length ≤ 256) (i : Nat) (hi : i < 6 * 256) :
    ∃ c d : UInt8, s[i]? = some c ∧ (crashed s (wrs l) ks)[i]? = some d ∧ (d == c || l.any (hits d i)) = true := by
  have hfit : ∀ x ∈ wrs l, x.1 * 256 + x.2.length ≤ s.length ∧ x.2.length = 256 := by
    intro x hx
    obtain ⟨o, ho, rfl⟩ := List.mem_map.1 hx
    have h1 := hl o ho
    have h2 := sect_length o.b h1.2.2
    show o.n.toNat * 256 + (sect o.b).length ≤ s.length ∧ (sect o.b).length = 256
    rw [h2]
    omega
  have hcl := crashed_length s (wrs l) ks (fun x hx => (hfit x hx).1)
  refine ⟨s[i]'(by omega), (crashed s (wrs l) ks)[i]'(by omega), List.getElem?_eq_getElem _, List.getElem?_eq_getElem _, ?_⟩
  have hb := crashed_byte (wrs l) s ks hfit i
  rw [List.getElem?_eq_getElem (by omega : i < (crashed s (wrs l) ks).length)] at hb
  generalize (crashed s (wrs l) ks)[i]'(by omega) = d at *
  rcases hb with e | ⟨x, hx, e1, e2⟩
  · rw [List.getElem?_eq_getElem (by omega : i < s.length)] at e
    cases e
    simp
  · obtain ⟨o, ho, rfl⟩ := List.mem_map.1 hx
    have h1 := hl o ho
    simp only at e1 e2
    rw [sect_get _ _ (Nat.mod_lt _ (by decide))] at e2
    cases e2
    have : l.any (hits (o.b.getD (i % 256) 0) i) = true := List.any_eq_true.2 ⟨o, ho, by unfold hits; simp; omega⟩
    rw [this]
    simp

/-! ### operations that the call owns -/
theorem info45 : (Try.prog.info? 45).map (fun i => (i.zero, i.size, i.bytes)) = some (some (.agg #[.int .i64 0, .int .i64 0, .slice none 0 0, .slice none 0 0]), 4, 64) := by kernel_rfl

/-- the slice value v owns the operations l, whose bytes and numbers lie in W -/
def OwnO (W w : World) (B : Nat) (v : Value) (l : List OpV) : Prop :=
  ∃ cs : List (List Value), cs.length = l.length ∧ (∀ i (h1 : i < cs.length) (h2 : i < l.length), OpIs W cs[i] l[i]) ∧ w.ownsRow B 45 4 v l.length cs.flatten

theorem OwnO.nil (W w : World) (B : Nat) : OwnO W w B (.slice none 0 0) [] := ⟨[], rfl, fun i h => by simp at h, World.ownsRow_nil w B 45 4⟩
theorem OwnO.mod {W : World} {F : Nat → Prop} {w w' : World} {B : Nat} {v : Value} {l} (h : OwnO W w B v l) (hm : Mod F w w') (hF : ∀ k, v.ownBlock = some k → ¬ F k) : OwnO W w' B v l := by
  obtain ⟨cs, h1, h2, h3⟩ := h
  refine ⟨cs, h1, h2, h3.1, ?_⟩
  rcases h3.2 with hn | ⟨g, cap, cur, rfl, hb, hgg, rest⟩
  · exact .inl hn
  · exact .inr ⟨g, cap, cur, rfl, hb, hm.obj hgg (hF g rfl), rest⟩
def OpsT (W : World) (B : Nat) (v : Value) (l : List OpV) : Thg B :=
  ⟨fun w F => OwnO W w B v l ∧ F = fun k => v.ownBlock = some k, fun {w F} h k hk => by obtain ⟨⟨cs, -, -, h⟩, rfl⟩ := h; exact World.ownsRow.lt h k hk,
    fun {G w w' F} h hm hF => by obtain ⟨h, rfl⟩ := h; exact ⟨h.mod hm hF, rfl⟩⟩

theorem Apart.ops {W w0 w : World} {B : Nat} {Ts : List (Thg B)} {v : Value} {l : List OpV} (h : Apart w0 B Ts w) (i : Nat) (hi : Ts[i]? = some (OpsT W B v l)) : OwnO W w B v l := by
  obtain ⟨F, h, -⟩ := h.get i hi
  exact h
theorem OwnO.shape {W w : World} {B : Nat} {v : Value} {l} (h : OwnO W w B v l) : ∃ a cap, v = .slice a l.length cap ∧ l.length ≤ cap ∧ cap ≤ maxLen := by
  obtain ⟨cs, -, -, h⟩ := h
  rcases h.2 with ⟨h1, h0⟩ | ⟨g, cap, cur, h1, h2, h3, h4, h5, h6, h7⟩
  · have e := List.eq_nil_of_length_eq_zero h0
    subst e
    exact ⟨none, 0, h1, Nat.le_refl _, by decide⟩
  · exact ⟨_, cap, h1, h4, h5⟩

theorem flatten_get (cs : List (List Value)) (h4 : ∀ c ∈ cs, c.length = 4) (k j : Nat) (hk : k < cs.length) (hj : j < 4) : cs.flatten[k * 4 + j]? = cs[k][j]? := by
  induction cs generalizing k with
  | nil => simp at hk
  | cons c r ih =>
    have hc := h4 c List.mem_cons_self
    rw [List.flatten_cons, List.getElem?_append]
    cases k with
    | zero => rw [if_pos (by omega)]; simp
    | succ k =>
      rw [if_neg (by omega), hc, show (k + 1) * 4 + j - 4 = k * 4 + j by omega]
      simpa using ih (fun y hy => h4 y (List.mem_cons_of_mem _ hy)) k (by simpa using hk)

theorem OpIs.len {W : World} {cs : List Value} {o : OpV} (h : OpIs W cs o) : cs.length = 4 := by
  obtain ⟨ab, cb, al, cl, rfl, -⟩ := h.is
  rfl

/-- operation number k, as the owned row has it -/
theorem OwnO.at {W w : World} {B : Nat} {v : Value} {l : List OpV} (h : OwnO W w B v l) (k : Nat) (hk : k < l.length) :
    ∃ g cap, v = .slice (some ⟨g, 0, none⟩) l.length cap ∧ ∃ (ab : Option Addr) (cb : Nat), w.cell? ⟨g, k * 4 + 1, none⟩ = some (.int .i64 l[k].n) ∧ w.cell? ⟨g, k * 4 + 2, none⟩ = some (.slice ab l[k].b.length cb) ∧
      BytesAt W ab l[k].b ∧ (ab = none → cb = 0) ∧ l[k].b.length ≤ 140737488351232 := by
  obtain ⟨cs, h1, h2, h3⟩ := h
  have h3' := h3
  rcases h3.2 with ⟨_, h0⟩ | ⟨g, cap, cur, rfl, -⟩
  · omega
  · have h4 : ∀ c ∈ cs, c.length = 4 := fun c hc => by
      obtain ⟨i, hi, rfl⟩ := List.getElem_of_mem hc
      exact (h2 i hi (by omega)).len
    have hkc : k < cs.length := by omega
    obtain ⟨ab, cb, al, cl, e, r1, r2, r3, r4, r5⟩ := (h2 k hkc hk).is
    refine ⟨g, cap, rfl, ab, cb, ?_, ?_, r1, r2, r4⟩
    · have hc := World.ownsRow.cells h3' (g := g) rfl (k * 4 + 1) (.int .i64 l[k].n) (by rw [flatten_get cs h4 k 1 hkc (by omega), e]; rfl)
      rw [Addr.add_mid, Nat.zero_add] at hc; exact hc
    · have hc := World.ownsRow.cells h3' (g := g) rfl (k * 4 + 2) (.slice ab l[k].b.length cb) (by rw [flatten_get cs h4 k 2 hkc (by omega), e]; rfl)
      rw [Addr.add_mid, Nat.zero_add] at hc; exact hc

section
variable {W w : World} {ops : Array Oper} {rest : List Oper} {o : Oper} {a : Act} {Q : Exit → Act → World → Prop}
/-- append(l, op) on operations that are owned -/
theorem appO (hgd : o.guard = none) (s x : Operand) (ho : o.op = .call { callee := .builtin .append, args := #[s, x], argTypes := #[38, 38] })
    (B : Nat) (v : Value) (l : List OpV) (hs : a.eval s = v) (hown : OwnO W w B v l)
    (ad : Addr) (c : Nat) (r : OpV) (cs : List Value) (hx : a.eval x = .slice (some ad) 1 c) (hr : OpIs W cs r) (hc : ∀ (j : Nat) u, cs[j]? = some u → w.cell? (ad.add j) = some u)
    (h47 : l.length + 1 ≤ 1048576) (hB : B ≤ w.heap.size)
    (h : ∀ v' w', OwnO W w' B v' (l ++ [r]) → Mod (fun k => some k = v.ownBlock) w w' → (v'.ownBlock = v.ownBlock ∨ v'.ownBlock = some w.heap.size) → wpList Try.prog ops Q rest (a.put o.dst v') w') :
    wpList Try.prog ops Q (o :: rest) a w := by
  obtain ⟨i, hi, hz, hs1, hb1⟩ := info_parts info45
  obtain ⟨ls, h1, h2, h3⟩ := hown
  have hcl := hr.len
  have h4 : ∀ u ∈ cs, u.oneCell' = true := by
    obtain ⟨ab, cb, al, cl, rfl, -⟩ := hr.is
    intro u hu
    simp only [List.mem_cons, List.not_mem_nil, or_false] at hu
    rcases hu with rfl | rfl | rfl | rfl <;> rfl
  refine wpList_append_own_at w hgd s x 38 ho B 45 i _ 4 64 Try.underlying38 hi hz hs1 hb1 rfl (by decide) v l.length ls.flatten hs h3 ad 1 c cs hx (by omega) hc h4
    (by unfold maxLen; omega) (by omega) hB ?_
  intro v' w' k1 k2 _ k3
  refine h v' w' ⟨ls ++ [cs], by simp [h1], fun i g1 g2 => ?_, ?_⟩ (Mod.grown k2) k3
  · by_cases e : i < ls.length
    · rw [List.getElem_append_left e, List.getElem_append_left (by omega)]
      exact h2 i e (by omega)
    · simp only [List.length_append, List.length_cons, List.length_nil] at g1 g2
      rw [List.getElem_append_right (by omega), List.getElem_append_right (by omega)]
      simpa using hr
  · rw [List.length_append, List.flatten_append]
    simpa using k1
end

theorem Apart.grownO {W w0 w w' : World} {B : Nat} {Ts : List (Thg B)} {v v' : Value} {l l' : List OpV} (h : Apart w0 B Ts w) (i : Nat) (hi : Ts[i]? = some (OpsT W B v l)) (ho : OwnO W w' B v' l') (hm : Mod (fun k => some k = v.ownBlock) w w')
    (hp : v'.ownBlock = v.ownBlock ∨ v'.ownBlock = some w.heap.size) : Apart w0 B (Ts.set i (OpsT W B v' l')) w' := by
  obtain ⟨F, ⟨hF, rfl⟩, hup⟩ := h.turn i hi
  refine hup _ _ ⟨hm.mono (fun k _ e => e.symm), _, ⟨ho, rfl⟩, fun k hk => ?_⟩
  rcases hp with e | e
  · left; rw [← e]; exact hk
  · right
    rw [e] at hk
    cases hk
    exact Nat.le_refl _
theorem Apart.bareO {W w0 w : World} {B : Nat} {Ts : List (Thg B)} (h : Apart w0 B Ts w) : Apart w0 B (Ts ++ [OpsT W B (.slice none 0 0) []]) w :=
  h.more (OpsT W B (.slice none 0 0) []) (Mod.refl _ _) ⟨OwnO.nil _ _ _, rfl⟩ (fun k hk => by simp [Value.ownBlock] at hk)
end Go.Proofs.Ytdinnkacilgmmaa
