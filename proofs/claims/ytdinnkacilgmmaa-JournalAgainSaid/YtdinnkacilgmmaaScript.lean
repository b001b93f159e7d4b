/- What a step of a disk's script keeps; where a script's operation lies. (The same lemmas stand in Loads, which is not imported beside this.) -/
import Derived.Test.YtdinnkacilgmmaaLift3
import Derived.Test.YtdinnkacilgmmaaSep
import Derived.Deep.DeepCutAuto
import Derived.Deep.CutBlock
namespace Go.Proofs.Ytdinnkacilgmmaa
open Go.RowKit

/-! ### what a script's step keeps -/
theorem Dsk.wf.write_len {D : Dsk} (n : Int) (b : List UInt8) : (D.write n b).safe = D.safe ∧ (D.write n b).l.length ≤ D.l.length + 1 := by
  unfold Dsk.write; split
  · exact ⟨rfl, by simp⟩
  · exact ⟨rfl, by omega⟩
theorem Dsk.wf.sync_len {D : Dsk} (h : D.wf) : D.sync.safe.length = D.safe.length ∧ D.sync.l.length ≤ D.l.length + 1 := by
  unfold Dsk.sync; split
  · exact ⟨rfl, by omega⟩
  split
  · exact ⟨rfl, by simp⟩
  · exact ⟨h.now, by simp⟩
theorem Dsk.wf.crash_len {D : Dsk} (h : D.wf) (ks : List Int) : (D.crash ks).safe.length = D.safe.length ∧ (D.crash ks).l = [] := ⟨crashed_length _ _ _ h.fit, rfl⟩
theorem Dsk.wf.step_len {D : Dsk} (h : D.wf) (o : OpV) : (D.step o).safe.length = D.safe.length ∧ (D.step o).l.length ≤ D.l.length + 1 := by
  unfold Dsk.step
  split
  · have := Dsk.wf.write_len (D := D) o.n o.b
    exact ⟨by rw [this.1], this.2⟩
  split
  · exact h.sync_len
  split
  · exact ⟨rfl, by simp⟩
  split
  · exact ⟨rfl, by simp⟩
  split
  · exact ⟨(h.crash_len o.l).1, by rw [(h.crash_len o.l).2]; simp⟩
  · exact ⟨rfl, by omega⟩

theorem crashed_nil (s : List UInt8) : ∀ l : List (Nat × List UInt8), crashed s l [] = s := by
  intro l
  induction l with
  | nil => rfl
  | cons x r ih =>
    show crashed (lay s x.1 (x.2.take (clamp 0))) r [] = s
    rw [show clamp 0 = 0 by decide, List.take_zero, lay_nil, ih]

/-- string(b), of bytes that are owned -/
theorem run_strV {w : World} {B : Nat} {v : Value} {l : List UInt8} (h : OwnB w B v l) : (convert 22 9 v).run Try.prog w = .ok (.string ⟨l.toArray⟩) w := by
  obtain ⟨a, c, rfl, -, -, hb⟩ := h.shape
  exact run_str hb l.length c rfl

/-- the cells of an operation of a script, behind whatever the call has made -/
theorem op_here {W w : World} {b off j : Nat} {c0 c1 c2 c3 : Value} {o : OpV} (hb : Below W.heap.size W w) (h : OpIs W [c0, c1, c2, c3] o)
    (k0 : W.cell? ⟨b, off + j * 4, none⟩ = some c0) (k1 : W.cell? ⟨b, off + j * 4 + 1, none⟩ = some c1) (k2 : W.cell? ⟨b, off + j * 4 + 2, none⟩ = some c2) (k3 : W.cell? ⟨b, off + j * 4 + 3, none⟩ = some c3) :
    ∃ (ab : Option Addr) (cb : Nat) (al : Option Addr) (cl : Nat), w.cell? ⟨b, off + j * 4, none⟩ = some (.int .i64 o.kind) ∧ w.cell? ⟨b, off + j * 4 + 1, none⟩ = some (.int .i64 o.n) ∧
      w.cell? ⟨b, off + j * 4 + 2, none⟩ = some (.slice ab o.b.length cb) ∧ w.cell? ⟨b, off + j * 4 + 3, none⟩ = some (.slice al o.l.length cl) ∧
      BytesAt w ab o.b ∧ (ab = none → cb = 0) ∧ IntsAt w al o.l ∧ o.b.length ≤ 140737488351232 ∧ o.l.length ≤ 140737488351232 ∧ (∀ x, ab = some x → o.b ≠ [] → x.block < W.heap.size) ∧ (∀ x, al = some x → o.l ≠ [] → x.block < W.heap.size) := by
  obtain ⟨ab, cb, al, cl, e, h1, h2, h3, h4, h5⟩ := h.is
  simp only [List.cons.injEq, and_true] at e
  obtain ⟨rfl, rfl, rfl, rfl⟩ := e
  have hlt := World.block_lt_of_cell? _ _ k0
  have keep : ∀ t v, W.cell? ⟨b, t, none⟩ = some v → w.cell? ⟨b, t, none⟩ = some v := fun t v hv => (hb.cell (p := ⟨b, t, none⟩) hlt).trans hv
  have hl1 : ∀ x, ab = some x → o.b ≠ [] → x.block < W.heap.size := fun x hx hne => by subst hx; exact h1.lt hne
  have hl2 : ∀ x, al = some x → o.l ≠ [] → x.block < W.heap.size := fun x hx hne => by
    subst hx
    obtain ⟨b', off', e, hc⟩ := h3 hne
    cases e
    exact World.block_lt_of_cell? _ _ (hc 0 (List.length_pos_iff.2 hne))
  refine ⟨ab, cb, al, cl, keep _ _ k0, keep _ _ k1, keep _ _ k2, keep _ _ k3, h1.below hb hl1, h2, ?_, h4, h5, hl1, hl2⟩
  exact h3.mod (Mod.of_below hb) (fun x hx hne e => by have := hl2 x hx hne; omega)


/-- an operation of a script, behind whatever the call has made -/
theorem OpsAt.here {W w : World} {a : Option Addr} {l : List OpV} (ha : OpsAt W a l) (hb : Below W.heap.size W w) {k : Nat} (hlt : k < l.length) :
    ∃ b off, a = some ⟨b, off, none⟩ ∧ ∃ (ab : Option Addr) (cb : Nat) (al : Option Addr) (cl : Nat), w.cell? ⟨b, off + k * 4, none⟩ = some (.int .i64 l[k].kind) ∧ w.cell? ⟨b, off + k * 4 + 1, none⟩ = some (.int .i64 l[k].n) ∧
      w.cell? ⟨b, off + k * 4 + 2, none⟩ = some (.slice ab l[k].b.length cb) ∧ w.cell? ⟨b, off + k * 4 + 3, none⟩ = some (.slice al l[k].l.length cl) ∧
      BytesAt w ab l[k].b ∧ (ab = none → cb = 0) ∧ IntsAt w al l[k].l ∧ l[k].b.length ≤ 140737488351232 ∧ l[k].l.length ≤ 140737488351232 ∧ (∀ x, ab = some x → l[k].b ≠ [] → x.block < W.heap.size) ∧ (∀ x, al = some x → l[k].l ≠ [] → x.block < W.heap.size) := by
  obtain ⟨bb, off, rfl, hops⟩ := ha (by intro e; rw [e] at hlt; simp at hlt)
  obtain ⟨c0, c1, c2, c3, k0, k1, k2, k3, hop⟩ := hops k hlt
  exact ⟨bb, off, rfl, op_here hb hop k0 k1 k2 k3⟩
end Go.Proofs.Ytdinnkacilgmmaa
