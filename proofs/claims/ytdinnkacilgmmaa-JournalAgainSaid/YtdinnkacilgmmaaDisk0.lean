/- The disk, said plainly, and how it lies in memory. -/
import Derived.Test.YtdinnkacilgmmaaNoughts
import Derived.Deep.MidRow
namespace Go.Proofs.Ytdinnkacilgmmaa
open Go.RowKit

/-! ### said plainly -/

/-- bytes as a sector -/
def sect (b : List UInt8) : List UInt8 := b ++ List.replicate (256 - b.length) 0
theorem sect_length (b : List UInt8) (h : b.length ≤ 256) : (sect b).length = 256 := by simp [sect]; omega

/-- bytes with some written over from a sector's head on -/
def lay (s : List UInt8) (n : Nat) (b : List UInt8) : List UInt8 := splice s (n * 256) b
theorem lay_length (s : List UInt8) (n : Nat) (b : List UInt8) (h : n * 256 + b.length ≤ s.length) : (lay s n b).length = s.length := length_splice s _ b h
theorem lay_nil (s : List UInt8) (n : Nat) : lay s n [] = s := by simp [lay, splice]

/-- a disk: what is safe, the writes behind it, and its flags -/
structure Dsk where
  safe : List UInt8
  l : List (Nat × List UInt8)
  bad : Bool
  full : Bool
  gone : Bool

def layAll (s : List UInt8) (l : List (Nat × List UInt8)) : List UInt8 := l.foldl (fun s x => lay s x.1 x.2) s
def Dsk.now (D : Dsk) : List UInt8 := layAll D.safe D.l
def Dsk.N (D : Dsk) : Nat := D.safe.length / 256

structure Dsk.wf (D : Dsk) : Prop where
  len : D.safe.length = D.N * 256
  pos : 1 ≤ D.N
  top : D.N ≤ 4096
  l : ∀ x ∈ D.l, x.1 < D.N ∧ x.2.length = 256

theorem layAll_length (s : List UInt8) : ∀ (l : List (Nat × List UInt8)), (∀ x ∈ l, x.1 * 256 + x.2.length ≤ s.length) → (layAll s l).length = s.length := by
  intro l
  induction l generalizing s with
  | nil => intro _; rfl
  | cons x r ih =>
    intro h
    have h0 := lay_length s x.1 x.2 (h x List.mem_cons_self)
    show (layAll (lay s x.1 x.2) r).length = _
    rw [ih, h0]
    intro y hy
    rw [h0]
    exact h y (List.mem_cons_of_mem _ hy)

theorem layAll_snoc (s : List UInt8) (l : List (Nat × List UInt8)) (x : Nat × List UInt8) : layAll s (l ++ [x]) = lay (layAll s l) x.1 x.2 := by simp [layAll]

theorem Dsk.wf.fit {D : Dsk} (h : D.wf) : ∀ x ∈ D.l, x.1 * 256 + x.2.length ≤ D.safe.length := by
  intro x hx
  have := h.l x hx
  rw [h.len, this.2]
  have : x.1 + 1 ≤ D.N := this.1
  omega
theorem Dsk.wf.now {D : Dsk} (h : D.wf) : D.now.length = D.safe.length := layAll_length _ _ h.fit

/-! ### the calls, said plainly -/

def Dsk.wrong (D : Dsk) (n : Int) : Int := if n < 0 ∨ (D.N : Int) ≤ n then 1 else 0
def Dsk.why (D : Dsk) (n : Int) (b : List UInt8) : Int :=
  if D.gone then 21 else if n < 0 ∨ (D.N : Int) ≤ n then 1 else if 256 < b.length then 3 else if D.full then 4 else 0
def Dsk.write (D : Dsk) (n : Int) (b : List UInt8) : Dsk :=
  if D.why n b = 0 then { D with l := D.l ++ [(n.toNat, sect b)] } else D
def Dsk.whySync (D : Dsk) : Int := if D.gone then 21 else if D.bad then 20 else 0
def Dsk.sync (D : Dsk) : Dsk :=
  if D.gone then D else if D.bad then { D with gone := true } else { D with safe := D.now, l := [] }

/-- how many bytes of a write are kept -/
def clamp (k : Int) : Nat := min (max k 0).toNat 256
def crashed (s : List UInt8) : List (Nat × List UInt8) → List Int → List UInt8
  | [], _ => s
  | x :: l, ks => crashed (lay s x.1 (x.2.take (clamp (ks.headD 0)))) l ks.tail
def Dsk.crash (D : Dsk) (ks : List Int) : Dsk := { safe := crashed D.safe D.l ks, l := [], bad := false, full := false, gone := false }

theorem crashed_length (s : List UInt8) : ∀ (l : List (Nat × List UInt8)) (ks : List Int), (∀ x ∈ l, x.1 * 256 + x.2.length ≤ s.length) → (crashed s l ks).length = s.length := by
  intro l
  induction l generalizing s with
  | nil => intro _ _; rfl
  | cons x r ih =>
    intro ks h
    have h1 := h x List.mem_cons_self
    have h0 := lay_length s x.1 (x.2.take (clamp (ks.headD 0))) (by simp; omega)
    show (crashed (lay s x.1 _) r _).length = _
    rw [ih, h0]
    intro y hy
    rw [h0]
    exact h y (List.mem_cons_of_mem _ hy)

theorem Dsk.wf.write {D : Dsk} (h : D.wf) (n : Int) (b : List UInt8) : (D.write n b).wf := by
  unfold Dsk.write
  split
  · rename_i hw
    have hb : ¬ (n < 0 ∨ (D.N : Int) ≤ n) ∧ ¬ 256 < b.length := by
      unfold Dsk.why at hw
      split at hw
      · exact absurd hw (by decide)
      split at hw
      · exact absurd hw (by decide)
      split at hw
      · exact absurd hw (by decide)
      exact ⟨‹_›, ‹_›⟩
    refine ⟨h.len, h.pos, h.top, ?_⟩
    intro x hx
    rcases List.mem_append.1 hx with hx | hx
    · exact h.l x hx
    · obtain rfl := List.mem_singleton.1 hx
      refine ⟨?_, sect_length b (by omega)⟩
      show n.toNat < D.N
      omega
  · exact h

theorem Dsk.wf.sync {D : Dsk} (h : D.wf) : D.sync.wf := by
  unfold Dsk.sync
  split
  · exact h
  split
  · exact ⟨h.len, h.pos, h.top, h.l⟩
  · have hn := h.now
    have e : D.now.length / 256 = D.N := by rw [hn]; rfl
    refine ⟨?_, ?_, ?_, fun x hx => by cases hx⟩
    · show D.now.length = D.now.length / 256 * 256
      rw [e, hn, h.len]
    · show 1 ≤ D.now.length / 256
      rw [e]; exact h.pos
    · show D.now.length / 256 ≤ 4096
      rw [e]; exact h.top

theorem Dsk.wf.crash {D : Dsk} (h : D.wf) (ks : List Int) : (D.crash ks).wf := by
  have hn := crashed_length D.safe D.l ks h.fit
  have e : (crashed D.safe D.l ks).length / 256 = D.N := by rw [hn]; rfl
  refine ⟨?_, ?_, ?_, fun x hx => by cases hx⟩
  · show (crashed D.safe D.l ks).length = (crashed D.safe D.l ks).length / 256 * 256
    rw [e, hn, h.len]
  · show 1 ≤ (crashed D.safe D.l ks).length / 256
    rw [e]; exact h.pos
  · show (crashed D.safe D.l ks).length / 256 ≤ 4096
    rw [e]; exact h.top

/-! ### in memory -/

/-- the cells of a write that is not safe yet -/
def chg (x : Nat × List UInt8) : List Value := .int .i64 (x.1 : Int) :: x.2.map byteV
def chgs (l : List (Nat × List UInt8)) : List Value := l.flatMap chg
def chgSize : Nat := 257
theorem chg_length (x : Nat × List UInt8) (h : x.2.length = 256) : (chg x).length = chgSize := by simp [chg, chgSize, h]
theorem chgs_length (l : List (Nat × List UInt8)) (h : ∀ x ∈ l, x.2.length = 256) : (chgs l).length = l.length * chgSize := by
  induction l with
  | nil => simp [chgs]
  | cons x r ih =>
    have := chg_length x (h x List.mem_cons_self)
    have ih' := ih (fun y hy => h y (List.mem_cons_of_mem _ hy))
    unfold chgs at ih' ⊢
    simp only [List.flatMap_cons, List.length_append, List.length_cons, this, ih', Nat.add_mul]
    omega

/-- the slice value v owns the writes l -/
def OwnC (w : World) (B : Nat) (v : Value) (l : List (Nat × List UInt8)) : Prop := w.ownsRow B 132 chgSize v l.length (chgs l)

theorem OwnC.nil (w : World) (B : Nat) : OwnC w B (.slice none 0 0) [] := World.ownsRow_nil w B 132 chgSize

theorem OwnC.mod {F : Nat → Prop} {w w' : World} {B : Nat} {v : Value} {l} (h : OwnC w B v l) (hm : Mod F w w') (hF : ∀ k, v.ownBlock = some k → ¬ F k) : OwnC w' B v l := by
  refine ⟨h.1, ?_⟩
  rcases h.2 with hn | ⟨g, cap, cur, rfl, hb, hgg, rest⟩
  · exact .inl hn
  · exact .inr ⟨g, cap, cur, rfl, hb, hm.obj hgg (hF g rfl), rest⟩

theorem OwnC.shape {w : World} {B : Nat} {v : Value} {l} (h : OwnC w B v l) : ∃ a cap, v = .slice a l.length cap ∧ l.length ≤ cap ∧ cap ≤ maxLen := by
  rcases h.2 with ⟨h1, h0⟩ | ⟨g, cap, cur, h1, h2, h3, h4, h5, h6, h7⟩
  · have e := List.eq_nil_of_length_eq_zero h0
    subst e
    exact ⟨none, 0, h1, Nat.le_refl _, by decide⟩
  · exact ⟨_, cap, h1, h4, h5⟩

/-- a disk in memory: block p, its three rows -/
structure DiskV (w : World) (B p : Nat) (vs vn vl : Value) (D : Dsk) : Prop where
  wf : D.wf
  at_ : w.heap[p]? = some (.cells #[vs, vn, vl, .bool D.bad, .bool D.full, .bool D.gone] 129 (0, 0))
  hp : B ≤ p
  safe : OwnB w B vs D.safe
  now : OwnB w B vn D.now
  l : OwnC w B vl D.l
  apart : vs.ownBlock ≠ vn.ownBlock

/-- the blocks of a disk -/
def foot (p : Nat) (vs vn vl : Value) (k : Nat) : Prop := k = p ∨ some k = vs.ownBlock ∨ some k = vn.ownBlock ∨ some k = vl.ownBlock

def DiskAt (w : World) (B p : Nat) (D : Dsk) (F : Nat → Prop) : Prop := ∃ vs vn vl, DiskV w B p vs vn vl D ∧ F = foot p vs vn vl

theorem DiskV.mod {F : Nat → Prop} {w w' : World} {B p : Nat} {vs vn vl : Value} {D : Dsk} (h : DiskV w B p vs vn vl D) (hm : Mod F w w') (hF : ∀ k, foot p vs vn vl k → ¬ F k) : DiskV w' B p vs vn vl D :=
  ⟨h.wf, hm.obj h.at_ (hF p (.inl rfl)), h.hp, h.safe.mod hm (fun k hk => hF k (.inr (.inl hk.symm))), h.now.mod hm (fun k hk => hF k (.inr (.inr (.inl hk.symm)))),
    h.l.mod hm (fun k hk => hF k (.inr (.inr (.inr hk.symm)))), h.apart⟩

theorem DiskV.lt {w : World} {B p : Nat} {vs vn vl : Value} {D : Dsk} (h : DiskV w B p vs vn vl D) : ∀ k, foot p vs vn vl k → B ≤ k ∧ k < w.heap.size := by
  rintro k (rfl | hk | hk | hk)
  · exact ⟨h.hp, lt_of_block h.at_⟩
  · exact World.ownsRow.lt h.safe k hk.symm
  · exact World.ownsRow.lt h.now k hk.symm
  · exact World.ownsRow.lt h.l k hk.symm

theorem DiskAt.mod {F G : Nat → Prop} {w w' : World} {B p : Nat} {D : Dsk} (h : DiskAt w B p D G) (hm : Mod F w w') (hF : ∀ k, G k → ¬ F k) : DiskAt w' B p D G := by
  obtain ⟨vs, vn, vl, h, rfl⟩ := h
  exact ⟨vs, vn, vl, h.mod hm hF, rfl⟩
theorem DiskAt.lt {G : Nat → Prop} {w : World} {B p : Nat} {D : Dsk} (h : DiskAt w B p D G) : ∀ k, G k → B ≤ k ∧ k < w.heap.size := by
  obtain ⟨vs, vn, vl, h, rfl⟩ := h
  exact h.lt
theorem DiskAt.fresh {G : Nat → Prop} {w w' : World} {B p : Nat} {D : Dsk} (h : DiskAt w B p D G) (hm : Below w.heap.size w w') : DiskAt w' B p D G :=
  h.mod (Mod.fresh hm (fun _ => False)) (fun _ _ => id)

/-- what a call on a disk leaves: the disk as D', nothing else turned, its new blocks its own -/
def Turned (w : World) (B p : Nat) (F : Nat → Prop) (D' : Dsk) (w' : World) : Prop :=
  Mod F w w' ∧ ∃ F', DiskAt w' B p D' F' ∧ ∀ k, F' k → F k ∨ w.heap.size ≤ k

theorem DiskV.ne_sl {w : World} {B p : Nat} {vs vn vl : Value} {D : Dsk} (h : DiskV w B p vs vn vl D) : vs.ownBlock ≠ some p ∧ vn.ownBlock ≠ some p ∧ vl.ownBlock ≠ some p ∧ (∀ k, vl.ownBlock = some k → vs.ownBlock ≠ some k ∧ vn.ownBlock ≠ some k) := by
  have ty : ∀ {e size v n xs g}, w.ownsRow B e size v n xs → v.ownBlock = some g → ∃ cur, w.heap[g]? = some (.cells cur e (0, 0)) := by
    intro e size v n xs g ho hg
    rcases ho.2 with ⟨rfl, _⟩ | ⟨g', cap, cur, rfl, _, hgg, _⟩
    · simp [Value.ownBlock] at hg
    · simp [Value.ownBlock] at hg
      subst hg
      exact ⟨cur, hgg⟩
  refine ⟨fun e => ?_, fun e => ?_, fun e => ?_, fun k hk => ⟨fun e => ?_, fun e => ?_⟩⟩
  · obtain ⟨c, hc⟩ := ty h.safe e
    rw [h.at_] at hc; injection hc with hc; injection hc with _ h2; cases h2
  · obtain ⟨c, hc⟩ := ty h.now e
    rw [h.at_] at hc; injection hc with hc; injection hc with _ h2; cases h2
  · obtain ⟨c, hc⟩ := ty h.l e
    rw [h.at_] at hc; injection hc with hc; injection hc with _ h2; cases h2
  · obtain ⟨c, hc⟩ := ty h.l hk
    obtain ⟨c', hc'⟩ := ty h.safe e
    rw [hc] at hc'; injection hc' with hc'; injection hc' with _ h2; cases h2
  · obtain ⟨c, hc⟩ := ty h.l hk
    obtain ⟨c', hc'⟩ := ty h.now e
    rw [hc] at hc'; injection hc' with hc'; injection hc' with _ h2; cases h2

/-- a disk's cells -/
theorem DiskV.cell {w : World} {B p : Nat} {vs vn vl : Value} {D : Dsk} (h : DiskV w B p vs vn vl D) :
    w.cell? ⟨p, 0, none⟩ = some vs ∧ w.cell? ⟨p, 1, none⟩ = some vn ∧ w.cell? ⟨p, 2, none⟩ = some vl ∧ w.cell? ⟨p, 3, none⟩ = some (.bool D.bad) ∧ w.cell? ⟨p, 4, none⟩ = some (.bool D.full) ∧ w.cell? ⟨p, 5, none⟩ = some (.bool D.gone) := by
  have hc := fun j => cell_of_row w p j _ 129 (0, 0) h.at_
  exact ⟨hc 0, hc 1, hc 2, hc 3, hc 4, hc 5⟩

end Go.Proofs.Ytdinnkacilgmmaa
