/- The disk. -/
import Derived.Test.YtdinnkacilgmmaaNoughts
import Derived.Deep.MidRow
import Derived.Deep.RegionHeld3
import Derived.Lib.SliceRun
import Derived.Great.BuildSlice
import Derived.Maps.AppendAt
import Derived.Test.YtdinnkacilgmmaaTells
namespace Go.Proofs.Ytdinnkacilgmmaa
open Go.RowKit

/-! ### said plainly -/

/-- bytes as a sector -/
def sect (b : List UInt8) : List UInt8 := b ++ List.replicate (256 - b.length) 0
theorem sect_length (b : List UInt8) (h : b.length ≤ 256) : (sect b).length = 256 := by simp [sect]; omega

/-- bytes with some written over from a sector's head on -/
def lay (s : List UInt8) (n : Nat) (b : List UInt8) : List UInt8 := splice s (n * 256) b
theorem lay_length (s : List UInt8) (n : Nat) (b : List UInt8) (h : n * 256 + b.length ≤ s.length) : (lay s n b).length = s.length := length_splice s _ b h
theorem lay_nil (s : List UInt8) (n : Nat) : lay s n [] = s := by simp [lay, splice]

/-- a disk: what is safe, the writes behind it, and its flags -/
structure Dsk where
  safe : List UInt8
  l : List (Nat × List UInt8)
  bad : Bool
  full : Bool
  gone : Bool

def layAll (s : List UInt8) (l : List (Nat × List UInt8)) : List UInt8 := l.foldl (fun s x => lay s x.1 x.2) s
def Dsk.now (D : Dsk) : List UInt8 := layAll D.safe D.l
def Dsk.N (D : Dsk) : Nat := D.safe.length / 256

structure Dsk.wf (D : Dsk) : Prop where
  len : D.safe.length = D.N * 256
  pos : 1 ≤ D.N
  top : D.N ≤ 4096
  l : ∀ x ∈ D.l, x.1 < D.N ∧ x.2.length = 256

theorem layAll_length (s : List UInt8) : ∀ (l : List (Nat × List UInt8)), (∀ x ∈ l, x.1 * 256 + x.2.length ≤ s.length) → (layAll s l).length = s.length := by
  intro l
  induction l generalizing s with
  | nil => intro _; rfl
  | cons x r ih =>
    intro h
    have h0 := lay_length s x.1 x.2 (h x List.mem_cons_self)
    show (layAll (lay s x.1 x.2) r).length = _
    rw [ih, h0]
    intro y hy
    rw [h0]
    exact h y (List.mem_cons_of_mem _ hy)

theorem layAll_snoc (s : List UInt8) (l : List (Nat × List UInt8)) (x : Nat × List UInt8) : layAll s (l ++ [x]) = lay (layAll s l) x.1 x.2 := by simp [layAll]

theorem Dsk.wf.fit {D : Dsk} (h : D.wf) : ∀ x ∈ D.l, x.1 * 256 + x.2.length ≤ D.safe.length := by
  intro x hx
  have := h.l x hx
  rw [h.len, this.2]
  have : x.1 + 1 ≤ D.N := this.1
  omega
theorem Dsk.wf.now {D : Dsk} (h : D.wf) : D.now.length = D.safe.length := layAll_length _ _ h.fit

/-! ### the calls, said plainly -/

def Dsk.wrong (D : Dsk) (n : Int) : Int := if n < 0 ∨ (D.N : Int) ≤ n then 1 else 0
def Dsk.why (D : Dsk) (n : Int) (b : List UInt8) : Int :=
  if D.gone then 21 else if n < 0 ∨ (D.N : Int) ≤ n then 1 else if 256 < b.length then 3 else if D.full then 4 else 0
def Dsk.write (D : Dsk) (n : Int) (b : List UInt8) : Dsk :=
  if D.why n b = 0 then { D with l := D.l ++ [(n.toNat, sect b)] } else D
def Dsk.whySync (D : Dsk) : Int := if D.gone then 21 else if D.bad then 20 else 0
def Dsk.sync (D : Dsk) : Dsk :=
  if D.gone then D else if D.bad then { D with gone := true } else { D with safe := D.now, l := [] }

/-- how many bytes of a write are kept -/
def clamp (k : Int) : Nat := min (max k 0).toNat 256
def crashed (s : List UInt8) : List (Nat × List UInt8) → List Int → List UInt8
  | [], _ => s
  | x :: l, ks => crashed (lay s x.1 (x.2.take (clamp (ks.headD 0)))) l ks.tail
def Dsk.crash (D : Dsk) (ks : List Int) : Dsk := { safe := crashed D.safe D.l ks, l := [], bad := false, full := false, gone := false }

theorem crashed_length (s : List UInt8) : ∀ (l : List (Nat × List UInt8)) (ks : List Int), (∀ x ∈ l, x.1 * 256 + x.2.length ≤ s.length) → (crashed s l ks).length = s.length := by
  intro l
  induction l generalizing s with
  | nil => intro _ _; rfl
  | cons x r ih =>
    intro ks h
    have h1 := h x List.mem_cons_self
    have h0 := lay_length s x.1 (x.2.take (clamp (ks.headD 0))) (by simp; omega)
    show (crashed (lay s x.1 _) r _).length = _
    rw [ih, h0]
    intro y hy
    rw [h0]
    exact h y (List.mem_cons_of_mem _ hy)

theorem Dsk.wf.write {D : Dsk} (h : D.wf) (n : Int) (b : List UInt8) : (D.write n b).wf := by
  unfold Dsk.write
  split
  · rename_i hw
    have hb : ¬ (n < 0 ∨ (D.N : Int) ≤ n) ∧ ¬ 256 < b.length := by
      unfold Dsk.why at hw
      split at hw
      · exact absurd hw (by decide)
      split at hw
      · exact absurd hw (by decide)
      split at hw
      · exact absurd hw (by decide)
      exact ⟨‹_›, ‹_›⟩
    refine ⟨h.len, h.pos, h.top, ?_⟩
    intro x hx
    rcases List.mem_append.1 hx with hx | hx
    · exact h.l x hx
    · obtain rfl := List.mem_singleton.1 hx
      refine ⟨?_, sect_length b (by omega)⟩
      show n.toNat < D.N
      omega
  · exact h

theorem Dsk.wf.sync {D : Dsk} (h : D.wf) : D.sync.wf := by
  unfold Dsk.sync
  split
  · exact h
  split
  · exact ⟨h.len, h.pos, h.top, h.l⟩
  · have hn := h.now
    have e : D.now.length / 256 = D.N := by rw [hn]; rfl
    refine ⟨?_, ?_, ?_, fun x hx => by cases hx⟩
    · show D.now.length = D.now.length / 256 * 256
      rw [e, hn, h.len]
    · show 1 ≤ D.now.length / 256
      rw [e]; exact h.pos
    · show D.now.length / 256 ≤ 4096
      rw [e]; exact h.top

theorem Dsk.wf.crash {D : Dsk} (h : D.wf) (ks : List Int) : (D.crash ks).wf := by
  have hn := crashed_length D.safe D.l ks h.fit
  have e : (crashed D.safe D.l ks).length / 256 = D.N := by rw [hn]; rfl
  refine ⟨?_, ?_, ?_, fun x hx => by cases hx⟩
  · show (crashed D.safe D.l ks).length = (crashed D.safe D.l ks).length / 256 * 256
    rw [e, hn, h.len]
  · show 1 ≤ (crashed D.safe D.l ks).length / 256
    rw [e]; exact h.pos
  · show (crashed D.safe D.l ks).length / 256 ≤ 4096
    rw [e]; exact h.top

/-! ### in memory -/

/-- the cells of a write that is not safe yet -/
def chg (x : Nat × List UInt8) : List Value := .int .i64 (x.1 : Int) :: x.2.map byteV
def chgs (l : List (Nat × List UInt8)) : List Value := l.flatMap chg
def chgSize : Nat := 257
theorem chg_length (x : Nat × List UInt8) (h : x.2.length = 256) : (chg x).length = chgSize := by simp [chg, chgSize, h]
theorem chgs_length (l : List (Nat × List UInt8)) (h : ∀ x ∈ l, x.2.length = 256) : (chgs l).length = l.length * chgSize := by
  induction l with
  | nil => simp [chgs]
  | cons x r ih =>
    have := chg_length x (h x List.mem_cons_self)
    have ih' := ih (fun y hy => h y (List.mem_cons_of_mem _ hy))
    unfold chgs at ih' ⊢
    simp only [List.flatMap_cons, List.length_append, List.length_cons, this, ih', Nat.add_mul]
    omega

/-- the slice value v owns the writes l -/
def OwnC (w : World) (B : Nat) (v : Value) (l : List (Nat × List UInt8)) : Prop := w.ownsRow B 132 chgSize v l.length (chgs l)

theorem OwnC.nil (w : World) (B : Nat) : OwnC w B (.slice none 0 0) [] := World.ownsRow_nil w B 132 chgSize

theorem OwnC.mod {F : Nat → Prop} {w w' : World} {B : Nat} {v : Value} {l} (h : OwnC w B v l) (hm : Mod F w w') (hF : ∀ k, v.ownBlock = some k → ¬ F k) : OwnC w' B v l := by
  refine ⟨h.1, ?_⟩
  rcases h.2 with hn | ⟨g, cap, cur, rfl, hb, hgg, rest⟩
  · exact .inl hn
  · exact .inr ⟨g, cap, cur, rfl, hb, hm.obj hgg (hF g rfl), rest⟩

theorem OwnC.shape {w : World} {B : Nat} {v : Value} {l} (h : OwnC w B v l) : ∃ a cap, v = .slice a l.length cap ∧ l.length ≤ cap ∧ cap ≤ maxLen := by
  rcases h.2 with ⟨h1, h0⟩ | ⟨g, cap, cur, h1, h2, h3, h4, h5, h6, h7⟩
  · have e := List.eq_nil_of_length_eq_zero h0
    subst e
    exact ⟨none, 0, h1, Nat.le_refl _, by decide⟩
  · exact ⟨_, cap, h1, h4, h5⟩

/-- a disk in memory: block p, its three rows -/
structure DiskV (w : World) (B p : Nat) (vs vn vl : Value) (D : Dsk) : Prop where
  wf : D.wf
  at_ : w.heap[p]? = some (.cells #[vs, vn, vl, .bool D.bad, .bool D.full, .bool D.gone] 129 (0, 0))
  hp : B ≤ p
  safe : OwnB w B vs D.safe
  now : OwnB w B vn D.now
  l : OwnC w B vl D.l
  apart : vs.ownBlock ≠ vn.ownBlock

/-- the blocks of a disk -/
def foot (p : Nat) (vs vn vl : Value) (k : Nat) : Prop := k = p ∨ some k = vs.ownBlock ∨ some k = vn.ownBlock ∨ some k = vl.ownBlock

def DiskAt (w : World) (B p : Nat) (D : Dsk) (F : Nat → Prop) : Prop := ∃ vs vn vl, DiskV w B p vs vn vl D ∧ F = foot p vs vn vl

theorem DiskV.mod {F : Nat → Prop} {w w' : World} {B p : Nat} {vs vn vl : Value} {D : Dsk} (h : DiskV w B p vs vn vl D) (hm : Mod F w w') (hF : ∀ k, foot p vs vn vl k → ¬ F k) : DiskV w' B p vs vn vl D :=
  ⟨h.wf, hm.obj h.at_ (hF p (.inl rfl)), h.hp, h.safe.mod hm (fun k hk => hF k (.inr (.inl hk.symm))), h.now.mod hm (fun k hk => hF k (.inr (.inr (.inl hk.symm)))),
    h.l.mod hm (fun k hk => hF k (.inr (.inr (.inr hk.symm)))), h.apart⟩

theorem DiskV.lt {w : World} {B p : Nat} {vs vn vl : Value} {D : Dsk} (h : DiskV w B p vs vn vl D) : ∀ k, foot p vs vn vl k → B ≤ k ∧ k < w.heap.size := by
  rintro k (rfl | hk | hk | hk)
  · exact ⟨h.hp, lt_of_block h.at_⟩
  · exact World.ownsRow.lt h.safe k hk.symm
  · exact World.ownsRow.lt h.now k hk.symm
  · exact World.ownsRow.lt h.l k hk.symm

theorem DiskAt.mod {F G : Nat → Prop} {w w' : World} {B p : Nat} {D : Dsk} (h : DiskAt w B p D G) (hm : Mod F w w') (hF : ∀ k, G k → ¬ F k) : DiskAt w' B p D G := by
  obtain ⟨vs, vn, vl, h, rfl⟩ := h
  exact ⟨vs, vn, vl, h.mod hm hF, rfl⟩
theorem DiskAt.lt {G : Nat → Prop} {w : World} {B p : Nat} {D : Dsk} (h : DiskAt w B p D G) : ∀ k, G k → B ≤ k ∧ k < w.heap.size := by
  obtain ⟨vs, vn, vl, h, rfl⟩ := h
  exact h.lt
theorem DiskAt.fresh {G : Nat → Prop} {w w' : World} {B p : Nat} {D : Dsk} (h : DiskAt w B p D G) (hm : Below w.heap.size w w') : DiskAt w' B p D G :=
  h.mod (Mod.fresh hm (fun _ => False)) (fun _ _ => id)

/-- what a call on a disk leaves: the disk as D', nothing else turned, its new blocks its own -/
def Turned (w : World) (B p : Nat) (F : Nat → Prop) (D' : Dsk) (w' : World) : Prop :=
  Mod F w w' ∧ ∃ F', DiskAt w' B p D' F' ∧ ∀ k, F' k → F k ∨ w.heap.size ≤ k

theorem DiskV.ne_sl {w : World} {B p : Nat} {vs vn vl : Value} {D : Dsk} (h : DiskV w B p vs vn vl D) : vs.ownBlock ≠ some p ∧ vn.ownBlock ≠ some p ∧ vl.ownBlock ≠ some p ∧ (∀ k, vl.ownBlock = some k → vs.ownBlock ≠ some k ∧ vn.ownBlock ≠ some k) := by
  have ty : ∀ {e size v n xs g}, w.ownsRow B e size v n xs → v.ownBlock = some g → ∃ cur, w.heap[g]? = some (.cells cur e (0, 0)) := by
    intro e size v n xs g ho hg
    rcases ho.2 with ⟨rfl, _⟩ | ⟨g', cap, cur, rfl, _, hgg, _⟩
    · simp [Value.ownBlock] at hg
    · simp [Value.ownBlock] at hg
      subst hg
      exact ⟨cur, hgg⟩
  refine ⟨fun e => ?_, fun e => ?_, fun e => ?_, fun k hk => ⟨fun e => ?_, fun e => ?_⟩⟩
  · obtain ⟨c, hc⟩ := ty h.safe e
    rw [h.at_] at hc; injection hc with hc; injection hc with _ h2; cases h2
  · obtain ⟨c, hc⟩ := ty h.now e
    rw [h.at_] at hc; injection hc with hc; injection hc with _ h2; cases h2
  · obtain ⟨c, hc⟩ := ty h.l e
    rw [h.at_] at hc; injection hc with hc; injection hc with _ h2; cases h2
  · obtain ⟨c, hc⟩ := ty h.l hk
    obtain ⟨c', hc'⟩ := ty h.safe e
    rw [hc] at hc'; injection hc' with hc'; injection hc' with _ h2; cases h2
  · obtain ⟨c, hc⟩ := ty h.l hk
    obtain ⟨c', hc'⟩ := ty h.now e
    rw [hc] at hc'; injection hc' with hc'; injection hc' with _ h2; cases h2

/-- a disk's cells -/
theorem DiskV.cell {w : World} {B p : Nat} {vs vn vl : Value} {D : Dsk} (h : DiskV w B p vs vn vl D) :
    w.cell? ⟨p, 0, none⟩ = some vs ∧ w.cell? ⟨p, 1, none⟩ = some vn ∧ w.cell? ⟨p, 2, none⟩ = some vl ∧ w.cell? ⟨p, 3, none⟩ = some (.bool D.bad) ∧ w.cell? ⟨p, 4, none⟩ = some (.bool D.full) ∧ w.cell? ⟨p, 5, none⟩ = some (.bool D.gone) := by
  have hc := fun j => cell_of_row w p j _ 129 (0, 0) h.at_
  exact ⟨hc 0, hc 1, hc 2, hc 3, hc 4, hc 5⟩

end Go.Proofs.Ytdinnkacilgmmaa
namespace Go.Proofs.Ytdinnkacilgmmaa
open Go.RowKit

theorem OwnB.weaken {w : World} {B B' : Nat} {v : Value} {l : List UInt8} (h : OwnB w B' v l) (hB : B ≤ B') : OwnB w B v l := by
  refine ⟨h.1, ?_⟩
  rcases h.2 with hn | ⟨g, cap, cur, rfl, hb, rest⟩
  · exact .inl hn
  · exact .inr ⟨g, cap, cur, rfl, Nat.le_trans hB hb, rest⟩

set_option maxRecDepth 100000 in
/-- slices.Clone of bytes -/
theorem clone_any (a : Option Addr) (l : List UInt8) (cap : Nat) (w : World) (B : Nat) (hB : B ≤ w.heap.size) (hm : l.length ≤ 140737488355328) (ha : a = none → l = [] ∧ cap = 0) (hb : BytesAt w a l) :
    Calls Try.prog 86 #[.slice a l.length cap] w fun e w' => ∃ v, e = .returned v ∧ OwnB w' B v l ∧ Mod (fun _ => False) w w' ∧ (∀ k, v.ownBlock = some k → w.heap.size ≤ k) := by
  have kn : ∀ (w : World) (a : Option Addr) (n c : Nat), (binOp .eql 22 (.slice a n c) (.slice none 0 0)).run Try.prog w = .ok (.bool a.isNone) w := fun w a n c => Lib.run_eql_slice_nil w 22 5 a n c 0 0 Try.underlying22
  cases a with
  | none =>
    obtain ⟨rfl, rfl⟩ := ha rfl
    go_enter Try.func86, Try.ntmps86
    go_wp2
    go_ret
    exact ⟨_, rfl, OwnB.nil _ _, Mod.refl _ _, by simp [Value.ownBlock]⟩
  | some x =>
    go_enter Try.func86, Try.ntmps86
    go_wp2_with (first
      | (at_builtin; refine appB rfl _ _ rfl w.heap.size (.slice (some ⟨w.heap.size, 0, none⟩) 0 0) [] rfl (OwnB.made w _ [] #[] (by simp) (Nat.le_refl _) (by decide)) _ _ _ l rfl rfl (fun e => by cases e) (hb.fresh ((Below.refl _ _).alloc (Nat.le_refl _) _)) (by simp; omega) (by simp) ?_; intro v1 w1 hown1 hmod1 _; rw [List.nil_append] at hown1))
    go_ret
    refine ⟨_, rfl, hown1.weaken hB, (Mod.alloc (fun _ => False) w _).trans hmod1 ?_, fun k hk => (World.ownsRow.lt hown1 k hk).1⟩
    intro i hi h
    simp [Value.ownBlock] at h
    omega

theorem clone_n (a : Option Addr) (l : List UInt8) (n cap : Nat) (w : World) (B : Nat) (hn : l.length = n) (hB : B ≤ w.heap.size) (hm : l.length ≤ 140737488355328) (ha : a = none → l = [] ∧ cap = 0) (hb : BytesAt w a l) :
    Calls Try.prog 86 #[.slice a n cap] w fun e w' => ∃ v, e = .returned v ∧ OwnB w' B v l ∧ Mod (fun _ => False) w w' ∧ (∀ k, v.ownBlock = some k → w.heap.size ≤ k) := by
  subst hn; exact clone_any a l cap w B hB hm ha hb

section
variable {w : World} {B p : Nat} {vs vn vl : Value} {D : Dsk}

theorem _root_.Go.Proofs.Ytdinnkacilgmmaa.Dsk.wf.bound {D : Dsk} (h : D.wf) : D.safe.length ≤ 1048576 := by
  have h1 := h.len
  have h2 := h.top
  omega
theorem _root_.Go.Proofs.Ytdinnkacilgmmaa.Dsk.wf.pos' {D : Dsk} (h : D.wf) : 1 ≤ D.safe.length := by
  have h1 := h.len
  have h2 := h.pos
  omega

theorem Dsk.len_div (D : Dsk) (_h : D.wf) : ((D.safe.length : Int) / 256) = (D.N : Int) := by
  unfold Dsk.N; omega

theorem setCell_block {w : World} {q i : Nat} {C : Array Value} {t : TypeId} (hq : w.heap[q]? = some (.cells C t (0, 0))) (v : Value) : (w.setCell ⟨q, i, none⟩ v).heap[q]? = some (.cells (C.setIfInBounds i v) t (0, 0)) := by
  rw [setCell_eq_setRow w q i C t (0, 0) v hq]
  exact setRow_heap w q C _ t _ hq

theorem thaw_of {w : World} {q i : Nat} {C : Array Value} {t : TypeId} (hq : w.heap[q]? = some (.cells C t (0, 0))) : w.frozen? ⟨q, i, none⟩ = false := by simp [World.frozen?, hq]

theorem foot_p {p : Nat} {vs vn vl : Value} : foot p vs vn vl p := .inl rfl

/-- one cell of the disk's own block is written -/
theorem DiskV.flag (h : DiskV w B p vs vn vl D) (i : Nat) (v : Value) (D' : Dsk) (hs : D'.safe = D.safe) (hl : D'.l = D.l)
    (hc : #[vs, vn, vl, .bool D.bad, .bool D.full, .bool D.gone].setIfInBounds i v = #[vs, vn, vl, .bool D'.bad, .bool D'.full, .bool D'.gone]) :
    Turned w B p (foot p vs vn vl) D' (w.setCell ⟨p, i, none⟩ v) := by
  have hm : Mod (fun k => k = p) w (w.setCell ⟨p, i, none⟩ v) := Mod.setCell w _ v rfl
  refine ⟨Mod.setCell w _ v foot_p, _, ⟨vs, vn, vl, ⟨?_, ?_, h.hp, ?_, ?_, ?_, h.apart⟩, rfl⟩, fun k hk => .inl hk⟩
  · obtain ⟨s, l, b, f, g⟩ := D'
    subst hs hl
    exact ⟨h.wf.len, h.wf.pos, h.wf.top, h.wf.l⟩
  · rw [setCell_block h.at_, hc]
  · rw [hs]
    exact h.safe.mod hm (fun k hk e => h.ne_sl.1 (by rw [hk, e]))
  · have : D'.now = D.now := by unfold Dsk.now; rw [hs, hl]
    rw [this]
    exact h.now.mod hm (fun k hk e => h.ne_sl.2.1 (by rw [hk, e]))
  · rw [hl]
    exact h.l.mod hm (fun k hk e => h.ne_sl.2.2.1 (by rw [hk, e]))

theorem size_any (h : DiskV w B p vs vn vl D) : Calls Try.prog 52 #[.pointer (some ⟨p, 0, none⟩)] w fun e w' => e = .returned (.int .i64 (D.N : Int)) ∧ w = w' := by
  have c0 := h.cell.1
  obtain ⟨a, cap, rfl, h1, h2, -⟩ := h.safe.shape
  have hN := Lib.hid (D.len_div h.wf)
  have hb := h.wf.bound
  go_enter Try.func52, Try.ntmps52
  go_wp2
  go_ret
  exact ⟨ret_val (by show Value.int _ _ = _; rw [hN.out]), rfl⟩

theorem wrong_any (h : DiskV w B p vs vn vl D) (n : Int) : Calls Try.prog 87 #[.pointer (some ⟨p, 0, none⟩), .int .i64 n] w fun e w' => e = .returned (.int .i64 (D.wrong n)) ∧ w = w' := by
  have hN := D.N
  by_cases h1 : n < 0
  · have e : D.wrong n = 1 := by simp [Dsk.wrong, h1]
    rw [e]
    go_enter Try.func87, Try.ntmps87
    go_wp2
    go_ret
    exact ⟨rfl, rfl⟩
  · by_cases h2 : (D.N : Int) ≤ n
    · have e : D.wrong n = 1 := by simp [Dsk.wrong, h2]
      rw [e]
      go_enter Try.func87, Try.ntmps87
      go_wp2_with (go_at_call 52; refine (size_any h).mono ?_; rintro e w' ⟨rfl, rfl⟩)
      go_ret
      exact ⟨rfl, rfl⟩
    · have e : D.wrong n = 0 := by unfold Dsk.wrong; rw [if_neg (by omega)]
      rw [e]
      go_enter Try.func87, Try.ntmps87
      go_wp2_with (go_at_call 52; refine (size_any h).mono ?_; rintro e w' ⟨rfl, rfl⟩)
      go_ret
      exact ⟨rfl, rfl⟩

theorem image_any (h : DiskV w B p vs vn vl D) (C : Nat) (hC : C ≤ w.heap.size) : Calls Try.prog 34 #[.pointer (some ⟨p, 0, none⟩)] w fun e w' => ∃ v, e = .returned v ∧ OwnB w' C v D.safe ∧ Mod (fun _ => False) w w' ∧ (∀ k, v.ownBlock = some k → w.heap.size ≤ k) := by
  have c0 := h.cell.1
  obtain ⟨a, cap, rfl, h1, h2, hbs⟩ := h.safe.shape
  have hb := h.wf.bound
  have hp := h.wf.pos'
  have ha : a = none → D.safe = [] ∧ cap = 0 := by
    rintro rfl
    have := hbs
    by_cases e : D.safe = []
    · rw [e] at hp; simp at hp
    · obtain ⟨_, _, e2, _⟩ := hbs e; cases e2
  go_enter Try.func34, Try.ntmps34
  go_wp2_with fail
  refine (clone_any a D.safe cap w C hC (by omega) ha hbs).mono ?_
  rintro e w' ⟨v, rfl, h3, h4, h5⟩
  go_wp2
  go_ret
  exact ⟨_, rfl, h3, h4, h5⟩

theorem unsynced_any (h : DiskV w B p vs vn vl D) : Calls Try.prog 39 #[.pointer (some ⟨p, 0, none⟩)] w fun e w' => e = .returned (.int .i64 (D.l.length : Int)) ∧ w = w' := by
  obtain ⟨-, -, c2, -⟩ := h.cell
  obtain ⟨a, cap, rfl, h1, h2⟩ := h.l.shape
  go_enter Try.func39, Try.ntmps39
  go_wp2
  go_ret
  exact ⟨rfl, rfl⟩

theorem dead_any (h : DiskV w B p vs vn vl D) : Calls Try.prog 38 #[.pointer (some ⟨p, 0, none⟩)] w fun e w' => e = .returned (.bool D.gone) ∧ w = w' := by
  obtain ⟨-, -, -, -, -, c5⟩ := h.cell
  go_enter Try.func38, Try.ntmps38
  go_wp2
  have hr : Try.f38.results = #[.tmp 2] := rfl
  refine bodyPost_ret (results_tmp hr _ _ _) rfl ?_
  exact ⟨rfl, rfl⟩

theorem fail_any (h : DiskV w B p vs vn vl D) : Calls Try.prog 42 #[.pointer (some ⟨p, 0, none⟩)] w fun e w' => e = .returned (.int .i64 0) ∧ Turned w B p (foot p vs vn vl) { D with bad := true } w' := by
  obtain ⟨-, -, -, c3, -⟩ := h.cell
  have f3 := thaw_of (i := 3) h.at_
  go_enter Try.func42, Try.ntmps42
  go_wp2
  go_ret
  exact ⟨rfl, h.flag 3 _ _ rfl rfl rfl⟩

theorem full_any (h : DiskV w B p vs vn vl D) (b : Bool) : Calls Try.prog 41 #[.pointer (some ⟨p, 0, none⟩), .bool b] w fun e w' => e = .returned (.int .i64 0) ∧ Turned w B p (foot p vs vn vl) { D with full := b } w' := by
  obtain ⟨-, -, -, -, c4, -⟩ := h.cell
  have f4 := thaw_of (i := 4) h.at_
  go_enter Try.func41, Try.ntmps41
  go_wp2
  go_ret
  exact ⟨rfl, h.flag 4 _ _ rfl rfl rfl⟩

/-- at: a sector of bytes -/
theorem at_any (a : Option Addr) (n N cap k : Nat) (w : World) (hN : N * 256 ≤ n) (hc : n ≤ cap) (hk : k < N) (hn : n ≤ 1048576) (g off : Nat) (ha : a = some ⟨g, off, none⟩) :
    Calls Try.prog 85 #[.slice a n cap, .int .i64 (k : Int)] w fun e w' => e = .returned (.slice (some ⟨g, off + k * 256, none⟩) 256 256) ∧ w = w' := by
  subst ha
  have h1 : (k : Int) * 256 + 256 ≤ (n : Int) := by omega
  go_enter Try.func85, Try.ntmps85
  go_wp2
  go_ret
  exact ⟨ret_val (by show Value.slice _ _ _ = _; rw [show (k + 1) * 256 - k * 256 = 256 by omega]), rfl⟩

/-- a sector of bytes -/
def sector (s : List UInt8) (k : Nat) : List UInt8 := (s.drop (k * 256)).take 256
theorem sector_length (s : List UInt8) (k N : Nat) (h : N * 256 ≤ s.length) (hk : k < N) : (sector s k).length = 256 := by
  simp [sector]; omega

theorem BytesAt.sub {w : World} {g off : Nat} {l : List UInt8} (h : BytesAt w (some ⟨g, off, none⟩) l) (k m : Nat) : BytesAt w (some ⟨g, off + k, none⟩) ((l.drop k).take m) := by
  intro hne
  have hl : l ≠ [] := by rintro rfl; simp at hne
  obtain ⟨b, o, e, hc⟩ := h hl
  cases e
  refine ⟨_, _, rfl, fun j hj => ?_⟩
  have hj' : k + j < l.length := by simp at hj; omega
  have := hc (k + j) hj'
  rw [Nat.add_assoc, this]
  simp

theorem read_any (h : DiskV w B p vs vn vl D) (n : Int) (C : Nat) (hC : C ≤ w.heap.size) : Calls Try.prog 37 #[.pointer (some ⟨p, 0, none⟩), .int .i64 n] w fun e w' =>
    ∃ v, e = .returned (.tuple #[v, .int .i64 (D.wrong n)]) ∧ OwnB w' C v (if D.wrong n = 0 then sector D.now n.toNat else []) ∧ Mod (fun _ => False) w w' ∧ (∀ k, v.ownBlock = some k → w.heap.size ≤ k) := by
  obtain ⟨-, c1, -⟩ := h.cell
  by_cases hw : D.wrong n = 0
  · obtain ⟨k, rfl⟩ : ∃ k : Nat, n = (k : Int) := ⟨n.toNat, by unfold Dsk.wrong at hw; split at hw <;> omega⟩
    have hk : k < D.N := by unfold Dsk.wrong at hw; split at hw <;> omega
    have hn := h.wf.now
    have hp := h.wf.pos'
    obtain ⟨g, cap, cur, rfl, -, -, h1, h2, -⟩ := h.now.row (by intro e; rw [e] at hn; simp at hn; omega)
    obtain ⟨a, cap', e, -, -, hbs⟩ := h.now.shape
    cases e
    have hb := h.wf.bound
    have hsub := hbs.sub (k * 256) 256
    rw [Nat.zero_add] at hsub
    have hN : D.N * 256 ≤ D.now.length := by rw [hn]; exact Nat.le_of_eq h.wf.len.symm
    have hb' : D.now.length ≤ 1048576 := by rw [hn]; exact hb
    have hsl := sector_length D.now k D.N hN hk
    have hwr := wrong_any h (k : Int)
    rw [hw] at hwr ⊢
    rw [if_pos rfl, Int.toNat_natCast]
    clear hn
    go_enter Try.func37, Try.ntmps37
    go_wp2_with fail
    refine hwr.mono ?_
    rintro e w' ⟨rfl, rfl⟩
    go_wp2_with fail
    refine (at_any (some ⟨g, 0, none⟩) D.now.length D.N cap k w hN h1 hk hb' g 0 rfl).mono ?_
    rintro e w' ⟨rfl, rfl⟩
    go_wp2_with fail
    refine (clone_n _ (sector D.now k) 256 _ _ C hsl hC (by omega) (fun e => by cases e) hsub).mono ?_
    rintro e w' ⟨v, rfl, h3, h4, h5⟩
    go_wp2
    refine bodyPost_ret (results_tmp2 rfl _ _ _) rfl ?_
    exact ⟨_, rfl, h3, h4, h5⟩
  · have hwr := wrong_any h n
    have hw1 : D.wrong n = 1 := by unfold Dsk.wrong at hw ⊢; split <;> simp_all
    rw [hw1] at hwr ⊢
    rw [if_neg (by decide)]
    go_enter Try.func37, Try.ntmps37
    go_wp2_with fail
    refine hwr.mono ?_
    rintro e w' ⟨rfl, rfl⟩
    go_wp2
    refine bodyPost_ret (results_tmp2 rfl _ _ _) rfl ?_
    exact ⟨_, rfl, OwnB.nil _ _, Mod.refl _ _, by simp [Value.ownBlock]⟩
end
end Go.Proofs.Ytdinnkacilgmmaa
namespace Go.Proofs.Ytdinnkacilgmmaa
open Go.RowKit

/-- a sector of zeros: a name that the walk leaves standing -/
def zeros256 : List UInt8 := List.replicate 256 0
theorem zeros256_length : zeros256.length = 256 := List.length_replicate
theorem zero132 : Try.zeroCells132 = (chg (0, zeros256)).toArray := by kernel_rfl
theorem zero132_set (n : Nat) : Try.zeroCells132.toList.set 0 (Value.int IntKind.i64 (n : Int)) = chg (n, zeros256) := by
  rw [zero132]; rfl
theorem info132 : (Try.prog.info? 132).map (fun i => (i.zero, i.size, i.bytes)) = some (some (.agg (chg (0, zeros256)).toArray), chgSize, 264) := by kernel_rfl
theorem info132_size : (Try.prog.info? 132).map (·.size) = some chgSize := by kernel_rfl

theorem setRow_alloc (w : World) (C C' : Array Value) (t : TypeId) (fz : Nat × Nat) : (w.alloc (.cells C t fz)).setRow w.heap.size C' = w.alloc (.cells C' t fz) := by
  unfold World.setRow World.alloc
  congr 1
  apply Array.ext
  · simp
  · intro i h1 h2
    simp only [Array.getElem_modify]
    split
    · rename_i h; subst h; simp
    · rename_i h; simp at h2; rw [Array.getElem_push_lt (by omega), Array.getElem_push_lt (by omega)]
theorem run_store132 (w : World) (n : Nat) : (storeCells ⟨w.heap.size, 0, none⟩ (Try.zeroCells132.toList.set 0 (Value.int IntKind.i64 (n : Int)))).run Try.prog (w.alloc (.cells Try.zeroCells132 132)) =
    .ok () (w.alloc (.cells (chg (n, zeros256)).toArray 132)) := by
  rw [zero132_set, zero132]
  have h := run_storeCells_from (P := Try.prog) w.heap.size 132 (chg (n, zeros256)) 0 (chg (0, zeros256)).toArray (w.alloc (.cells (chg (0, zeros256)).toArray 132)) (heap_alloc_new w _) (by rw [Nat.zero_add, List.size_toArray, chg_length (n, zeros256) (zeros256_length), chg_length (0, zeros256) (zeros256_length)]) (by
    intro v hv
    rcases List.mem_cons.1 hv with rfl | hv
    · rfl
    · obtain ⟨c, -, rfl⟩ := List.mem_map.1 hv; rfl)
  rw [h]
  simp only [List.take_zero, List.nil_append]
  rw [setRow_alloc]

theorem splice_map (s : List UInt8) (off : Nat) (b : List UInt8) : splice (s.map byteV) off (b.map byteV) = (splice s off b).map byteV := by
  simp [splice, List.map_take, List.map_drop]

section
variable {w : World} {ops : Array Oper} {rest : List Oper} {o : Oper} {a : Act} {Q : Exit → Act → World → Prop}

/-- copy(dst, src) on bytes: a row of cells is written over by all of the source -/
theorem copy_run (ty : TypeId) (g off dl dc : Nat) (sp : Option Addr) (sl sc : Nat) (r : List UInt8) (hr : r.length = sl) (hle : sl ≤ dl) (hb : BytesAt w sp r)
    (cur : Array Value) (t : TypeId) (hg : w.heap[g]? = some (.cells cur t (0, 0))) (hfit : off + r.length ≤ cur.size) :
    ∃ w', (Builtin.copy_ #[22, 22] ty #[.slice (some ⟨g, off, none⟩) dl dc, .slice sp sl sc]).run Try.prog w = .ok (goInt r.length) w' ∧
      w'.heap[g]? = some (.cells (splice cur.toList off (r.map byteV)).toArray t (0, 0)) ∧ Mod (fun k => k = g) w w' := by
  obtain ⟨i, hi, hz, hs, hbt⟩ := info_parts info5
  have hsz : (Try.prog.info? 5).map (·.size) = some 1 := by rw [hi]; simp [hs]
  by_cases h0 : r = []
  · subst h0
    have hrun := run_copy_none (P := Try.prog) w 22 22 ty 5 (some ⟨g, off, none⟩) sp dl dc sl sc Try.underlying22 hsz (by simp at hr; subst hr; simp)
    exact ⟨w, hrun, by simpa [splice] using hg, Mod.refl _ _⟩
  · obtain ⟨ad, rfl, hc⟩ := bytesAt_cells hb h0
    have hrun := run_copy_row (P := Try.prog) w 22 22 ty 5 g off dl dc ad sl sc cur t (r.map byteV) Try.underlying22 hsz hg (by rw [List.length_map, hr]; exact (Nat.min_eq_left hle).symm) hc (by simpa using hfit) (bytes_oneCell r)
    refine ⟨_, by rw [hrun]; simp [splice], setRow_heap w g _ _ t _ hg, Mod.setRow w g _ rfl⟩

theorem copyB (hgd : o.guard = none) (d s : Operand) (ho : o.op = .call { callee := .builtin .copy, args := #[d, s], argTypes := #[22, 22] })
    (g off dl dc : Nat) (hd : a.eval d = .slice (some ⟨g, off, none⟩) dl dc) (sp : Option Addr) (sl sc : Nat) (hs : a.eval s = .slice sp sl sc) (r : List UInt8) (hr : r.length = sl) (hle : sl ≤ dl) (hb : BytesAt w sp r)
    (cur : Array Value) (t : TypeId) (hg : w.heap[g]? = some (.cells cur t (0, 0))) (hfit : off + r.length ≤ cur.size)
    (h : ∀ w', w'.heap[g]? = some (.cells (splice cur.toList off (r.map byteV)).toArray t (0, 0)) → Mod (fun k => k = g) w w' → wpList Try.prog ops Q rest (a.put o.dst (goInt r.length)) w') :
    wpList Try.prog ops Q (o :: rest) a w := by
  refine wpList_plain hgd fun K hK => ?_
  obtain ⟨w', hrun, h1, h2⟩ := copy_run (w := w) o.type g off dl dc sp sl sc r hr hle hb cur t hg hfit
  unfold Oper.wp
  simp [execOp, ho, resolve, invoke, builtin, hd, hs, hrun, Result.andThen]
  exact hK _ _ (h w' h1 h2)

theorem copyB_step {E : Prop} {K : Act → World → Prop} (hgd : o.guard = none) (d s : Operand) (ho : o.op = .call { callee := .builtin .copy, args := #[d, s], argTypes := #[22, 22] })
    (g off dl dc : Nat) (hd : a.eval d = .slice (some ⟨g, off, none⟩) dl dc) (sp : Option Addr) (sl sc : Nat) (hs : a.eval s = .slice sp sl sc) (r : List UInt8) (hr : r.length = sl) (hle : sl ≤ dl) (hb : BytesAt w sp r)
    (cur : Array Value) (t : TypeId) (hg : w.heap[g]? = some (.cells cur t (0, 0))) (hfit : off + r.length ≤ cur.size)
    (h : ∀ w', w'.heap[g]? = some (.cells (splice cur.toList off (r.map byteV)).toArray t (0, 0)) → Mod (fun k => k = g) w w' → K (a.put o.dst (goInt r.length)) w') :
    if Region.wanted o (yielded ops a.tmps) = true then Oper.wp Try.prog o a w K Q else E := by
  rw [if_pos (by simp [Region.wanted, hgd])]
  obtain ⟨w', hrun, h1, h2⟩ := copy_run (w := w) o.type g off dl dc sp sl sc r hr hle hb cur t hg hfit
  unfold Oper.wp
  simp [execOp, ho, resolve, invoke, builtin, hd, hs, hrun, Result.andThen]
  exact h w' h1 h2
end

/-- an owned row, some of it written over -/
theorem OwnB.laid {w w' : World} {B g n cap off : Nat} {l b : List UInt8} {cur : Array Value} {t : TypeId} (h : OwnB w B (.slice (some ⟨g, 0, none⟩) n cap) l) (hg : w.heap[g]? = some (.cells cur t (0, 0)))
    (hg' : w'.heap[g]? = some (.cells (splice cur.toList off (b.map byteV)).toArray t (0, 0))) (hf : off + b.length ≤ l.length) : OwnB w' B (.slice (some ⟨g, 0, none⟩) n cap) (splice l off b) := by
  rcases h.2 with ⟨e, _⟩ | ⟨g', cap', cur', e, h2, h3, h4, h5, h6, h7⟩
  · cases e
  · cases e
    rw [hg] at h3
    cases h3
    have hl := length_splice l off b hf
    have hlc : off + (b.map byteV).length ≤ cur.toList.length := by simp at h6 ⊢; omega
    have hl2 := length_splice cur.toList off (b.map byteV) hlc
    refine ⟨by simp, .inr ⟨g, cap, _, by rw [hl], h2, hg', by rw [hl]; exact h4, h5, ?_, ?_⟩⟩
    · rw [List.size_toArray, hl2]; simpa using h6
    · rw [hl, ← splice_map, ← h7]
      simp only [splice, List.length_map, Nat.mul_one]
      apply List.ext_getElem?
      intro j
      simp only [List.getElem?_take, List.getElem?_append, List.length_take, Array.length_toList, List.getElem?_drop, List.length_map]
      simp only [Array.length_toList, List.length_map] at hlc
      have h8 : l.length ≤ cur.size := by rw [h6]; omega
      simp only [Nat.min_eq_left (show off ≤ cur.size by omega), Nat.min_eq_left (show off ≤ min l.length cur.size by omega)]
      by_cases hj : j < l.length
      · by_cases h9 : j < off
        · simp [hj, h9]
        · by_cases h10 : j - off < b.length
          · simp [hj, h9, h10]
          · simp [hj, h9, h10]
            intro h11; omega
      · simp [hj]
        have : ¬ j < off := by omega
        have : ¬ j - off < b.length := by omega
        simp [*]
        intros
        omega


theorem chg_oneCell (x : Nat × List UInt8) : ∀ u ∈ chg x, u.oneCell' = true := by
  intro u hu
  rcases List.mem_cons.1 hu with rfl | hu
  · rfl
  · exact bytes_oneCell x.2 u hu
theorem chgs_oneCell (l : List (Nat × List UInt8)) : ∀ u ∈ chgs l, u.oneCell' = true := by
  intro u hu
  obtain ⟨x, -, hx⟩ := List.mem_flatMap.1 hu
  exact chg_oneCell x u hx

/-- a slice literal of one write -/
theorem run_one132 (w : World) (C : Array Value) (hC : C.size = chgSize) : (Instr.buildSlice 127 1 #[(0, .agg C)]).run Try.prog w = .ok (.slice (some ⟨w.heap.size, 0, none⟩) 1 1) (w.alloc (.cells C 132)) := by
  obtain ⟨i, hi, hz, hs, hb⟩ := info_parts info132
  refine run_buildSlice w 127 132 1 _ C i _ Try.underlying127 hi hz ?_ ?_ ?_
  · rw [hs]; decide
  · rw [hs]; decide
  · rw [hs]
    have h := Great.fill_whole (s := chgSize) (by decide) [Value.agg C] ((Array.range (1 * chgSize)).map ((Value.agg (chg (0, zeros256)).toArray).cells[· % (Value.agg (chg (0, zeros256)).toArray).cells.size]!))
      (by intro v hv; rw [List.mem_singleton.1 hv]; exact hC) (by simp)
    simpa [Value.cells] using h

theorem one132_step {ops : Array Oper} {o : Oper} {a : Act} {w : World} {K : Act → World → Prop} {Q : Exit → Act → World → Prop} {E : Prop} (hgd : o.guard = none) (x : Operand) (ho : o.op = .buildSlice 127 1 #[(0, x)]) (C : Array Value) (hx : a.eval x = .agg C) (hC : C.size = chgSize)
    (h : K (a.put o.dst (.slice (some ⟨w.heap.size, 0, none⟩) 1 1)) (w.alloc (.cells C 132))) : if Region.wanted o (yielded ops a.tmps) = true then Oper.wp Try.prog o a w K Q else E := by
  rw [if_pos (by simp [Region.wanted, hgd])]
  have hm : (#[(0, x)].map fun (i, x) => (i, a.eval x)) = #[(0, .agg C)] := by simp [hx]
  unfold Oper.wp execOp
  simp only [ho, hm, Sem.run_bind, run_one132 w C hC, Result.andThen_ok]
  exact h

section
variable {w : World} {ops : Array Oper} {rest : List Oper} {o : Oper} {a : Act} {Q : Exit → Act → World → Prop}

/-- append(v, r...) on writes that are owned -/
theorem appC_step {E : Prop} {K : Act → World → Prop} (hgd : o.guard = none) (s x : Operand) (ho : o.op = .call { callee := .builtin .append, args := #[s, x], argTypes := #[127, 127] })
    (B : Nat) (v : Value) (l : List (Nat × List UInt8)) (hs : a.eval s = v) (hown : OwnC w B v l)
    (ad : Addr) (m c : Nat) (r : List (Nat × List UInt8)) (hx : a.eval x = .slice (some ad) m c) (hm : r.length = m) (hr : ∀ y ∈ r, y.2.length = 256)
    (hc : ∀ (j : Nat) u, (chgs r)[j]? = some u → w.cell? (ad.add j) = some u)
    (h47 : l.length + r.length ≤ 1048576) (hB : B ≤ w.heap.size)
    (h : ∀ v' w', OwnC w' B v' (l ++ r) → Mod (fun k => some k = v.ownBlock) w w' → (v'.ownBlock = v.ownBlock ∨ v'.ownBlock = some w.heap.size) → K (a.put o.dst v') w') :
    if Region.wanted o (yielded ops a.tmps) = true then Oper.wp Try.prog o a w K Q else E := by
  rw [if_pos (by simp [Region.wanted, hgd])]
  subst hm
  obtain ⟨i, hi, hz, hs1, hb1⟩ := info_parts info132
  have hz' : (Value.agg (chg (0, zeros256)).toArray).cells.size = chgSize := by
    show (chg (0, zeros256)).toArray.size = chgSize
    rw [List.size_toArray, chg_length (0, zeros256) zeros256_length]
  obtain ⟨v', w', hrun, h1, h2, -, h4⟩ := run_append_own_at (P := Try.prog) w B 127 o.type 132 i _ chgSize 264 Try.underlying127 hi hz hs1 hb1 hz' (by decide) v l.length (chgs l) hown ad r.length c (chgs r) (chgs_length r hr) hc (chgs_oneCell r) (by unfold maxLen; omega) (by omega) hB
  unfold Oper.wp execOp
  simp only [ho, resolve, invoke, builtin, Sem.run_bind, Sem.run_pure, Result.andThen_ok, List.map_toArray, List.map_cons, List.map_nil, hs, hx, hrun]
  refine h v' w' ?_ (Mod.grown h2) h4
  unfold OwnC
  rw [List.length_append, show chgs (l ++ r) = chgs l ++ chgs r by simp [chgs]]
  exact h1

theorem appC (hgd : o.guard = none) (s x : Operand) (ho : o.op = .call { callee := .builtin .append, args := #[s, x], argTypes := #[127, 127] })
    (B : Nat) (v : Value) (l : List (Nat × List UInt8)) (hs : a.eval s = v) (hown : OwnC w B v l)
    (ad : Addr) (m c : Nat) (r : List (Nat × List UInt8)) (hx : a.eval x = .slice (some ad) m c) (hm : r.length = m) (hr : ∀ y ∈ r, y.2.length = 256)
    (hc : ∀ (j : Nat) u, (chgs r)[j]? = some u → w.cell? (ad.add j) = some u)
    (h47 : l.length + r.length ≤ 1048576) (hB : B ≤ w.heap.size)
    (h : ∀ v' w', OwnC w' B v' (l ++ r) → Mod (fun k => some k = v.ownBlock) w w' → (v'.ownBlock = v.ownBlock ∨ v'.ownBlock = some w.heap.size) → wpList Try.prog ops Q rest (a.put o.dst v') w') :
    wpList Try.prog ops Q (o :: rest) a w := by
  refine wpList_plain hgd fun K hK => ?_
  have := appC_step (ops := ops) (E := True) (K := K) (Q := Q) hgd s x ho B v l hs hown ad m c r hx hm hr hc h47 hB (fun v' w' h1 h2 h3 => hK _ _ (h v' w' h1 h2 h3))
  rwa [if_pos (by simp [Region.wanted, hgd])] at this
end

/-- the cells of one write, in a block of its own -/
theorem chg_cells {w : World} {q : Nat} {x : Nat × List UInt8} {t : TypeId} {fz : Nat × Nat} (hq : w.heap[q]? = some (.cells (chg x).toArray t fz)) :
    (∀ (j : Nat) u, (chgs [x])[j]? = some u → w.cell? ((⟨q, 0, none⟩ : Addr).add j) = some u) ∧ BytesAt w (some ⟨q, 1, none⟩) x.2 := by
  constructor
  · intro j u hu
    have hadd : (⟨q, 0, none⟩ : Addr).add j = ⟨q, j, none⟩ := by unfold Addr.add; split <;> simp_all
    rw [hadd, cell_of_row w q j _ t fz hq]
    simpa [chgs] using hu
  · refine bytesAt_of_block hq x.2 (fun j hj => ?_)
    simp [chg, hj, Nat.add_comm 1 j]

theorem splice_chg (n : Nat) (b : List UInt8) (_h : b.length ≤ 256) : splice (chg (n, zeros256)).toArray.toList 1 (b.map byteV) = chg (n, sect b) := by
  simp only [splice, chg, sect, List.take_succ_cons, List.take_zero, List.length_map, List.map_append, List.cons_append, List.nil_append]
  congr 2
  rw [Nat.add_comm 1, List.drop_succ_cons, zeros256, List.map_replicate, List.drop_replicate, List.map_replicate]


theorem own_type {w : World} {B e size n : Nat} {v : Value} {xs : List Value} {g : Nat} (ho : w.ownsRow B e size v n xs) (hg : v.ownBlock = some g) : ∃ cur, w.heap[g]? = some (.cells cur e (0, 0)) := by
  rcases ho.2 with ⟨rfl, _⟩ | ⟨g', cap, cur, rfl, _, hgg, _⟩
  · simp [Value.ownBlock] at hg
  · simp [Value.ownBlock] at hg
    subst hg
    exact ⟨cur, hgg⟩
theorem own_ne {w : World} {B e size n : Nat} {v : Value} {xs : List Value} {g : Nat} {C : Array Value} {t : TypeId} {fz : Nat × Nat} (ho : w.ownsRow B e size v n xs) (hg : w.heap[g]? = some (.cells C t fz)) (hne : t ≠ e) : v.ownBlock ≠ some g := by
  intro h
  obtain ⟨cur, hc⟩ := own_type ho h
  rw [hg] at hc
  injection hc with hc
  injection hc with _ h2
  exact hne h2

/-- memory behind the append of Write -/
theorem write_mem {w w1 w3 : World} {B p q : Nat} {vs vn vl v3 : Value} {D : Dsk} (h : DiskV w B p vs vn vl D) (x : Nat × List UInt8) (C X : Array Value) (hq : w.heap.size = q)
    (m1 : Mod (fun k => k = q) w w1) (hw1 : w1.heap[q]? = some (.cells X 132 (0, 0))) (hown3 : OwnC w3 B v3 (D.l ++ [x])) (m3 : Mod (fun k => some k = vl.ownBlock) (w1.drew.alloc (.cells C 132)) w3)
    (hpl : v3.ownBlock = vl.ownBlock ∨ v3.ownBlock = some (w1.drew.alloc (.cells C 132)).heap.size) :
    Mod (fun k => k = q ∨ some k = vl.ownBlock ∨ k = p) w (w3.setCell ⟨p, 2, none⟩ v3) ∧ (w3.setCell ⟨p, 2, none⟩ v3).heap[q]? = some (.cells X 132 (0, 0)) ∧
    (w3.setCell ⟨p, 2, none⟩ v3).heap[p]? = some (.cells #[vs, vn, v3, .bool D.bad, .bool D.full, .bool D.gone] 129 (0, 0)) ∧ OwnC (w3.setCell ⟨p, 2, none⟩ v3) B v3 (D.l ++ [x]) ∧ (∀ k, v3.ownBlock = some k → vl.ownBlock = some k ∨ w.heap.size ≤ k) := by
  have hp := (h.lt p foot_p).2
  have hvl : ∀ k, vl.ownBlock = some k → k < w.heap.size := fun k hk => (h.lt k (.inr (.inr (.inr hk.symm)))).2
  have pv := h.ne_sl.2.2.1
  have m2 : Mod (fun k => k = q ∨ some k = vl.ownBlock) w (w1.drew.alloc (.cells C 132)) := (m1.mono (fun _ _ e => .inl e)).trans ((Mod.drew (fun _ => False) w1).trans' (Mod.alloc _ _ _)) (fun _ _ e => e.elim)
  have m23 : Mod (fun k => k = q ∨ some k = vl.ownBlock) w w3 := m2.trans m3 (fun _ _ e => .inr e)
  have m4 : Mod (fun k => k = p) w3 (w3.setCell ⟨p, 2, none⟩ v3) := Mod.setCell _ _ _ rfl
  have m24 : Mod (fun k => k = q ∨ some k = vl.ownBlock ∨ k = p) w (w3.setCell ⟨p, 2, none⟩ v3) :=
    (m23.mono (fun _ _ e => by rcases e with e | e; exact .inl e; exact .inr (.inl e))).trans m4 (fun _ _ e => .inr (.inr e))
  have hp3 : w3.heap[p]? = _ := m23.obj h.at_ (by rintro (e | e); omega; exact pv e.symm)
  refine ⟨m24, ?_, ?_, ?_, ?_⟩
  · have a1 := ((Mod.drew (fun _ => False) w1).trans' (Mod.alloc _ _ (.cells C 132))).obj hw1 id
    have a2 := m3.obj a1 (fun e => by have := hvl q e.symm; omega)
    exact m4.obj a2 (by omega)
  · rw [setCell_block hp3]; rfl
  · exact hown3.mod m4 (fun k hk e => own_ne hown3 hp3 (by decide) (by rw [hk, e]))
  · intro k hk
    rcases hpl with e | e
    · exact .inl (by rw [← e, hk])
    · rw [e] at hk
      cases hk
      exact .inr m2.size

/-- memory behind all of Write -/
theorem write_end {w w4 w5 : World} {B p q g : Nat} {vs vn vl v3 : Value} {D : Dsk} (h : DiskV w B p vs vn vl D) (n : Nat) (b : List UInt8) (hw : D.why n b = 0) (hq : w.heap.size = q)
    (m4 : Mod (fun k => k = q ∨ some k = vl.ownBlock ∨ k = p) w w4) (hp4 : w4.heap[p]? = some (.cells #[vs, vn, v3, .bool D.bad, .bool D.full, .bool D.gone] 129 (0, 0)))
    (hl4 : OwnC w4 B v3 (D.l ++ [(n, sect b)])) (hpl : ∀ k, v3.ownBlock = some k → vl.ownBlock = some k ∨ w.heap.size ≤ k)
    (hg : vn.ownBlock = some g) (m5 : Mod (fun k => k = g) w4 w5) (hn5 : OwnB w5 B vn (lay D.now n (sect b))) :
    Turned w B p (foot p vs vn vl) (D.write n b) w5 := by
  obtain ⟨k1, k2, k3, k4⟩ := h.ne_sl
  have hvl : ∀ k, foot p vs vn vl k → k < w.heap.size := fun k hk => (h.lt k hk).2
  have e : D.write n b = { D with l := D.l ++ [(n, sect b)] } := by unfold Dsk.write; rw [if_pos hw, Int.toNat_natCast]
  have hwf := h.wf.write n b
  rw [e] at hwf ⊢
  have m45 : Mod (foot p vs vn vl) w w5 := (m4.mono (fun k hk e => by
    rcases e with e | e | e
    · omega
    · exact .inr (.inr (.inr e))
    · exact .inl e)).trans m5 (fun k _ e => .inr (.inr (.inl (by rw [hg, e]))))
  refine ⟨m45, _, ⟨vs, vn, v3, ⟨hwf, ?_, h.hp, ?_, ?_, ?_, h.apart⟩, rfl⟩, ?_⟩
  · exact m5.obj hp4 (fun e => k2 (by rw [hg, e]))
  · refine (h.safe.mod m4 ?_).mod m5 ?_
    · rintro k hk (e | e | e)
      · have := hvl k (.inr (.inl hk.symm)); omega
      · exact (k4 k e.symm).1 hk
      · exact k1 (by rw [hk, e])
    · rintro k hk rfl
      exact h.apart (by rw [hk, hg])
  · show OwnB w5 B vn (layAll D.safe (D.l ++ [(n, sect b)]))
    rw [layAll_snoc]
    exact hn5
  · refine OwnC.mod hl4 m5 ?_
    rintro k hk rfl
    have ho : OwnB w4 B vn D.now := h.now.mod m4 (by
      rintro k hk2 (e | e | e)
      · have := hvl k (.inr (.inr (.inl hk2.symm))); omega
      · exact (k4 k e.symm).2 hk2
      · exact k2 (by rw [hk2, e]))
    obtain ⟨cur, hc⟩ := own_type ho hg
    exact own_ne hl4 hc (by decide) hk
  · rintro k (e | e | e | e)
    · exact .inl (.inl e)
    · exact .inl (.inr (.inl e))
    · exact .inl (.inr (.inr (.inl e)))
    · rcases hpl k e.symm with e2 | e2
      · exact .inl (.inr (.inr (.inr e2.symm)))
      · exact .inr e2
end Go.Proofs.Ytdinnkacilgmmaa
namespace Go.Proofs.Ytdinnkacilgmmaa
open Go.RowKit
set_option maxHeartbeats 1000000 in
set_option maxRecDepth 100000 in
theorem write_ok {w : World} {B p : Nat} {vs vn vl : Value} {D : Dsk} (h : DiskV w B p vs vn vl D) (n : Nat) (a : Option Addr) (b : List UInt8) (cap : Nat) (hb : BytesAt w a b)
   (hg : D.gone = false) (hfull : D.full = false) (hlen : (b.length : Int) ≤ 256) (hwr : D.wrong (n : Int) = 0) (hlim : D.l.length + 1 ≤ 1048576) (hn : n < D.N) (hw : D.why n b = 0) :
    Calls Try.prog 40 #[.pointer (some ⟨p, 0, none⟩), .int .i64 n, .slice a b.length cap] w fun e w' => e = .returned (.int .i64 0) ∧ Turned w B p (foot p vs vn vl) (D.write n b) w' := by
  obtain ⟨-, c1, c2, -, c4, c5⟩ := h.cell
  rw [hg] at c5
  rw [hfull] at c4
  have hl : b.length ≤ 256 := by omega
  have hl2 : (256 < (b.length : Int)) = False := by simp; omega
  have ks := run_store132
  go_enter Try.func40, Try.ntmps40
  go_wp2_with (go_at_call 87; refine (wrong_any h n).mono ?_; rintro e w' ⟨rfl, rfl⟩; rw [hwr])
  obtain ⟨w1, hrun, hw1, hm1⟩ := copy_run (w := w.alloc (Obj.cells (chg (n, zeros256)).toArray 132)) 3 w.heap.size 1 256 256 a b.length cap b rfl hl (hb.fresh ((Below.refl _ _).alloc (Nat.le_refl _) _)) _ 132 (heap_alloc_new w _) (by rw [List.size_toArray, chg_length (n, zeros256) zeros256_length]; unfold chgSize; omega)
  rw [hrun]
  clear hrun
  rw [splice_chg n b hl] at hw1
  have hm1' : Mod (fun k => k = w.heap.size) w w1 := (Mod.alloc _ w _).trans' hm1
  generalize hq : w.heap.size = q at *
  have hb1 : Below q w w1 := hm1'.below (fun k hk => by omega) (by omega)
  clear hm1
  have d1 := (h.mod hm1' (fun k hk e => by have := (h.lt k hk).2; omega)).cell
  have o1 := h.l.mod hm1' (fun k hk e => by have := (h.lt k (.inr (.inr (.inr hk.symm)))).2; omega)
  have f1 := thaw_of (i := 2) ((h.mod hm1' (fun k hk e => by have := (h.lt k hk).2; omega)).at_)
  have pq : p ≠ q := by have := (h.lt p (.inl rfl)).2; omega
  have vq : ∀ j, vl.ownBlock = some j → B ≤ j ∧ j < q := by have := fun j hj => h.lt j (.inr (.inr (.inr (Eq.symm hj)))); intro j hj; have := this j hj; omega
  have pv : vl.ownBlock ≠ some p := h.ne_sl.2.2.1
  obtain ⟨-, e1, e2, -, -, -⟩ := d1
  have hsl : (sect b).length = 256 := sect_length b hl
  have hXs : (chg (n, sect b)).toArray.size = chgSize := by rw [List.size_toArray, chg_length (n, sect b) hsl]
  have hnn := h.wf.now
  have hnF : ∀ k, vn.ownBlock = some k → ¬ (k = q ∨ some k = vl.ownBlock ∨ k = p) := by
    rintro k hk (e | e | e)
    · have := (h.lt k (.inr (.inr (.inl hk.symm)))).2; omega
    · exact (h.ne_sl.2.2.2 k e.symm).2 hk
    · exact h.ne_sl.2.1 (by rw [hk, e])
  have hne : D.now ≠ [] := by intro e; rw [e] at hnn; have := h.wf.pos'; simp at hnn; omega
  have hN : D.N * 256 ≤ D.now.length := by rw [hnn]; exact Nat.le_of_eq h.wf.len.symm
  have hb' : D.now.length ≤ 1048576 := by rw [hnn]; exact h.wf.bound
  clear hnn
  have hX1 := fun (w : World) (C : Array Value) (h : C.size = chgSize) => run_one132 w C h
  obtain ⟨hcc, hbt⟩ := chg_cells hw1
  have hrange : w1.rangeAt q 0 (chg (n, sect b)) := by
    have := World.rangeAt_of_block hw1 0 chgSize
    rw [Nat.zero_add, show ((chg (n, sect b)).toArray.extract 0 chgSize).toList = chg (n, sect b) by rw [← hXs]; simp] at this
    exact this
  have hlen1 := chg_length (n, sect b) hsl
  have hi : (Try.prog.info? 132).map (·.size) = some (chg (n, sect b)).length := by rw [info132_size, hlen1]
  have kb := fun (w : World) => run_one132 w _ hXs
  generalize hx : chg (n, sect b) = X at *
  have HW1 := Lib.hid hw1
  have HCC := Lib.hid hcc
  have HM1 := Lib.hid hm1'
  clear hw1 hcc hm1'
  go_wp2_with fail
  have hqs : q < w1.heap.size := lt_of_block HW1.out
  refine wp_region_held_drew (S := fun w' => w'.rangeAt q 0 X) (by kernel_rfl) (by simpa using hrange) (fun hHeld => ?_)
  refine' wpAnyH_take (i := 5) (oi := { dst := some 44, op := Op.load 132 (Operand.tmp 8), type := 132, pos := "disk.go:99", after := #[], guard := none }) (v := _) rfl (by kernel_rfl) (by kernel_rfl) (by kernel_rfl) (fun _ _ _ h => h) (yieldsIf_load_mid (by rfl) 132 _ rfl q 0 rfl X _ (fun _ hS => hS) Try.underlying132 rfl hi) (by assumption) ?_
  try simp only [Act.put, List.setIfInBounds_toArray, List.set_cons_zero, List.set_cons_succ]
  refine wpAnyH_take (i := 0) (oi := { dst := some 39, op := Op.move (Operand.tmp 0), type := 40, pos := "disk.go:99", after := #[], guard := none }) (v := .pointer (some ⟨p, 0, none⟩)) rfl (by kernel_rfl) (by kernel_rfl) (by kernel_rfl) (fun _ _ _ h => h) (Or.inl ⟨by rfl, fun w hSw => by clear hSw; go_simp⟩) (by assumption) ?_
  simp only [Act.put, List.setIfInBounds_toArray, List.set_cons_zero, List.set_cons_succ]
  refine wpAnyH_take (i := 1) (oi := { dst := some 40, op := Op.move (Operand.tmp 0), type := 40, pos := "disk.go:99", after := #[], guard := none }) (v := .pointer (some ⟨p, 0, none⟩)) rfl (by kernel_rfl) (by kernel_rfl) (by kernel_rfl) (fun _ _ _ h => h) (Or.inl ⟨by rfl, fun w hSw => by clear hSw; go_simp⟩) (by assumption) ?_
  simp only [Act.put, List.setIfInBounds_toArray, List.set_cons_zero, List.set_cons_succ]
  refine wpAnyH_take (i := 2) (oi := { dst := some 41, op := Op.nilCheck (Operand.tmp 40), type := 0, pos := "disk.go:99", after := #[{ on := 1, ground := Ground.data }], guard := none }) (v := .pointer (some ⟨p, 0, none⟩)) rfl (by kernel_rfl) (by kernel_rfl) (by kernel_rfl) (fun _ _ _ h => h) (Or.inl ⟨by rfl, fun w hSw => by clear hSw; go_simp⟩) (by assumption) ?_
  simp only [Act.put, List.setIfInBounds_toArray, List.set_cons_zero, List.set_cons_succ]
  refine wpAnyH_take (i := 3) (oi := { dst := some 42, op := Op.fieldAddr 129 (Operand.tmp 41) 2, type := 0, pos := "disk.go:99", after := #[{ on := 2, ground := Ground.data }], guard := none }) (v := .pointer (some ⟨p, 2, none⟩)) rfl (by kernel_rfl) (by kernel_rfl) (by kernel_rfl) (fun _ _ _ h => h) (Or.inl ⟨by rfl, fun w hSw => by clear hSw; go_simp⟩) (by assumption) ?_
  simp only [Act.put, List.setIfInBounds_toArray, List.set_cons_zero, List.set_cons_succ]
  refine wpAnyH_ready (rs := [4, 6]) (by kernel_rfl) (by simp) ?_
  have e2d : w1.drew.cell? ⟨p, 2, none⟩ = some vl := by simpa using e2
  have e2a : (w1.drew.alloc (.cells X.toArray 132)).cell? ⟨p, 2, none⟩ = some vl := by
    rw [World.cell?_alloc_lt _ _ _ (World.block_lt_of_cell? _ _ e2d)]; exact e2d
  have e2b : (w1.alloc (.cells X.toArray 132)).cell? ⟨p, 2, none⟩ = some vl := by
    rw [World.cell?_alloc_lt _ _ _ (World.block_lt_of_cell? _ _ e2)]; exact e2
  have hra : (w1.drew.alloc (.cells X.toArray 132)).rangeAt q 0 X := World.rangeAt_alloc (by simpa using hrange) _
  refine AllReadyH.cons (o := { dst := some 43, op := Op.load 127 (Operand.tmp 42), type := 127, pos := "disk.go:99", after := #[{ on := 3, ground := Ground.data }], guard := none }) rfl (fun K hK => ?_) (AllReadyH.cons (o := { dst := some 45, op := Op.buildSlice 127 1 #[(0, Operand.tmp 44)], type := 127, pos := "disk.go:99", after := #[{ on := 5, ground := Ground.data }], guard := none }) rfl (fun K hK => ?_) AllReadyH.nil)
  go_simp
  refine hK.out _ _ (by simpa using hrange) (fun hHeld => ?_)
  clear hK K
  refine wpAnyH_ready (rs := [6]) (by kernel_rfl) (by simp) ?_
  refine AllReadyH.cons (o := { dst := some 45, op := Op.buildSlice 127 1 #[(0, Operand.tmp 44)], type := 127, pos := "disk.go:99", after := #[{ on := 5, ground := Ground.data }], guard := none }) rfl (fun K hK => ?_) AllReadyH.nil
  refine one132_step rfl (.tmp 44) rfl X.toArray rfl hXs ?_
  simp only [Act.put, List.setIfInBounds_toArray, List.set_cons_zero, List.set_cons_succ]
  refine hK.out _ _ hra (fun hHeld => ?_)
  clear hK K
  rotate_left
  refine one132_step rfl (.tmp 44) rfl X.toArray rfl hXs ?_
  simp only [Act.put, List.setIfInBounds_toArray, List.set_cons_zero, List.set_cons_succ]
  refine hK.out _ _ hra (fun hHeld => ?_)
  clear hK K
  refine wpAnyH_ready (rs := [4]) (by kernel_rfl) (by simp) ?_
  refine AllReadyH.cons (o := { dst := some 43, op := Op.load 127 (Operand.tmp 42), type := 127, pos := "disk.go:99", after := #[{ on := 3, ground := Ground.data }], guard := none }) rfl (fun K hK => ?_) AllReadyH.nil
  go_simp
  rw [show (w1.alloc (.cells X.toArray 132)).drew = w1.drew.alloc (.cells X.toArray 132) from rfl]
  refine hK.out _ _ hra (fun hHeld => ?_)
  clear hK K
  all_goals
    refine wpAnyH_ready (rs := [7]) (by kernel_rfl) (by simp) ?_
    refine AllReadyH.cons (o := { dst := some 46, op := Op.call { callee := Callee.builtin Builtin.append, args := #[Operand.tmp 43, Operand.tmp 45], argTypes := #[127, 127] }, type := 127, pos := "disk.go:99", after := #[{ on := 4, ground := Ground.data }, { on := 6, ground := Ground.data }], guard := none }) rfl (fun K hK => ?_) AllReadyH.nil
    refine appC_step rfl _ _ rfl B vl D.l rfl (o1.mod (Mod.trans' (Mod.drew (fun _ => False) _) (Mod.alloc _ _ _)) (fun _ _ => id)) _ _ _ [(n, sect b)] rfl rfl (fun y hy => by rw [List.mem_singleton.1 hy]; exact hsl)
      ((chg_cells (x := (n, sect b)) (by rw [hx]; exact heap_alloc_new w1.drew _)).1) hlim (by have := hb1.size; have := h.hp; have := (h.lt p (.inl rfl)).2; simp; omega) ?_
    intro v3 w3 hown3 hmod3 hpl
    obtain ⟨av, cv, e3, -, -⟩ := hown3.shape
    generalize hNN : (D.l ++ [(n, sect b)]).length = NN at e3
    subst e3
    have HNN := Lib.hid hNN
    clear hNN
    simp only [Act.put, List.setIfInBounds_toArray, List.set_cons_zero, List.set_cons_succ]
    have g2 : w3.cell? ⟨p, 2, none⟩ = some vl := hmod3.cell' e2a (fun e => pv e.symm)
    have gr : w3.rangeAt q 0 X := fun j v hv => hmod3.cell' (hHeld j v hv) (fun e => by have := vq q e.symm; omega)
    have gf : w3.frozen? ⟨p, 2, none⟩ = false := by
      have hA := (h.mod HM1.out (fun k hk e => by have := (h.lt k hk).2; omega)).at_
      have hA2 := (Mod.trans' (Mod.drew (fun _ => False) w1) (Mod.alloc _ _ (.cells X.toArray 132))).obj hA id
      exact thaw_of (hmod3.obj hA2 (fun e => pv e.symm))
    refine hK.out _ _ gr (fun hHeld => ?_)
    clear hK K
    refine wpAnyH_take (i := 8) (oi := { dst := some 47, op := Op.nilCheck (Operand.tmp 39), type := 0, pos := "disk.go:99", after := #[{ on := 0, ground := Ground.data }, { on := 0, ground := Ground.phase }, { on := 1, ground := Ground.phase }, { on := 2, ground := Ground.phase }, { on := 3, ground := Ground.phase }, { on := 4, ground := Ground.phase }, { on := 5, ground := Ground.phase }, { on := 6, ground := Ground.phase }, { on := 7, ground := Ground.phase }], guard := none })
      (v := .pointer (some ⟨p, 0, none⟩)) rfl (by kernel_rfl) (by kernel_rfl) (by kernel_rfl) (fun _ _ _ h => h) (Or.inl ⟨by rfl, fun w hSw => by clear hSw; go_simp⟩) (by assumption) ?_
    simp only [Act.put, List.setIfInBounds_toArray, List.set_cons_zero, List.set_cons_succ]
    refine wpAnyH_take (i := 9) (oi := { dst := some 48, op := Op.fieldAddr 129 (Operand.tmp 47) 2, type := 0, pos := "disk.go:99", after := #[{ on := 8, ground := Ground.data }, { on := 0, ground := Ground.phase }, { on := 1, ground := Ground.phase }, { on := 2, ground := Ground.phase }, { on := 3, ground := Ground.phase }, { on := 4, ground := Ground.phase }, { on := 5, ground := Ground.phase }, { on := 6, ground := Ground.phase }, { on := 7, ground := Ground.phase }], guard := none })
      (v := .pointer (some ⟨p, 2, none⟩)) rfl (by kernel_rfl) (by kernel_rfl) (by kernel_rfl) (fun _ _ _ h => h) (Or.inl ⟨by rfl, fun w hSw => by clear hSw; go_simp⟩) (by assumption) ?_
    simp only [Act.put, List.setIfInBounds_toArray, List.set_cons_zero, List.set_cons_succ]
    refine wpAnyH_ready (rs := [10]) (by kernel_rfl) (by simp) ?_
    refine AllReadyH.cons (o := { dst := none, op := Op.store 127 (Operand.tmp 48) (Operand.tmp 46), type := 0, pos := "disk.go:99", after := #[{ on := 9, ground := Ground.data }, { on := 7, ground := Ground.data }, { on := 7, ground := Ground.chain }, { on := 0, ground := Ground.phase }, { on := 1, ground := Ground.phase }, { on := 2, ground := Ground.phase }, { on := 3, ground := Ground.phase }, { on := 4, ground := Ground.phase }, { on := 5, ground := Ground.phase }, { on := 6, ground := Ground.phase }, { on := 7, ground := Ground.phase }], guard := none }) rfl (fun K hK => ?_) AllReadyH.nil
    go_simp
    refine hK.out _ _ (fun j v hv => ?_) (fun hHeld => ?_)
    · rw [World.cell?_setCell_other _ _ _ _ (by intro e; exact pq (congrArg Addr.block e))]
      exact gr j v hv
    clear hK K
    refine wpAnyH_done (by kernel_rfl) ?_ _
    obtain ⟨m4, hq4, hp4, hl4, hpl4⟩ := write_mem h (n, sect b) X.toArray X.toArray hq HM1.out HW1.out hown3 hmod3 hpl
    generalize w3.setCell ⟨p, 2, none⟩ (.slice av NN cv) = w4 at *
    clear hown3 hmod3 hpl g2 gr gf HNN hHeld hra e2a e2b e2d
    have n4 := h.now.mod m4 hnF
    obtain ⟨gn, capn, curn, ev, -, hgn, hle4, -, hsz4, -⟩ := n4.row hne
    have hgp : ¬ p = gn := fun e => h.ne_sl.2.1 (by rw [ev, e]; rfl)
    have hgo : vn.ownBlock = some gn := by rw [ev]; rfl
    have HGO := Lib.hid hgo
    have HEV := Lib.hid ev
    clear hgo
    rw [ev] at n4 e1
    have c1n : w4.cell? ⟨p, 1, none⟩ = some (.slice (some ⟨gn, 0, none⟩) D.now.length capn) := by rw [cell_of_row w4 p 1 _ 129 (0, 0) hp4]; simp [ev]
    have hb4 : BytesAt w4 (some ⟨q, 1, none⟩) (sect b) := (chg_cells (x := (n, sect b)) (by rw [hx]; exact hq4)).2
    have HP4 := Lib.hid hp4
    have HG4 := Lib.hid hgn
    have HQ4 := Lib.hid hq4
    clear hp4 hgn hq4
    go_wp2_with fail
    go_region_held3 (fun w' => w'.cell? ⟨p, 1, none⟩ = some (.slice (some ⟨gn, 0, none⟩) D.now.length capn)) (first | (show _ = _; simpa using c1n) | exact m5.cell' (by simpa using c1n) hgp)
      (first
       | (go_at_call 85; (with_reducible refine (at_any (some ⟨gn, 0, none⟩) D.now.length D.N capn n _ hN hle4 hn hb' gn 0 rfl).mono ?_); rintro e w' ⟨rfl, rfl⟩)
       | (refine copyB_step rfl _ _ rfl gn (n * 256) 256 256 rfl (some ⟨q, 1, none⟩) 256 256 rfl (sect b) hsl (Nat.le_refl _) (by exact hb4) curn 5 (by exact HG4.out) (by rw [hsl]; omega) ?_; intro w5 hw5 m5))
    go_wp2_with fail
    go_ret
    have hn5 := OwnB.laid (n4.mod (Mod.drew (fun _ => False) w4) (fun _ _ => id)) (by exact HG4.out) hw5 (by rw [hsl]; omega)
    rw [← HEV.out] at hn5
    exact ⟨rfl, write_end h n b hw hq m4 HP4.out hl4 hpl4 HGO.out ((Mod.drew (fun k => k = gn) w4).trans' m5) hn5⟩

theorem Turned.refl {w : World} {B p : Nat} {vs vn vl : Value} {D : Dsk} (h : DiskV w B p vs vn vl D) : Turned w B p (foot p vs vn vl) D w :=
  ⟨Mod.refl _ _, _, ⟨vs, vn, vl, h, rfl⟩, fun _ hk => .inl hk⟩

set_option maxRecDepth 100000 in
theorem write_no {w : World} {B p : Nat} {vs vn vl : Value} {D : Dsk} (h : DiskV w B p vs vn vl D) (n : Int) (a : Option Addr) (b : List UInt8) (cap : Nat) (hm : b.length ≤ 140737488355328) (hw : D.why n b ≠ 0) :
    Calls Try.prog 40 #[.pointer (some ⟨p, 0, none⟩), .int .i64 n, .slice a b.length cap] w fun e w' => e = .returned (.int .i64 (D.why n b)) ∧ w = w' := by
  obtain ⟨-, -, -, -, c4, c5⟩ := h.cell
  by_cases hg : D.gone = true
  · have e : D.why n b = 21 := by simp [Dsk.why, hg]
    rw [e]
    rw [hg] at c5
    go_enter Try.func40, Try.ntmps40
    go_wp2
    go_ret
    exact ⟨rfl, rfl⟩
  have hg : D.gone = false := by simpa using hg
  rw [hg] at c5
  by_cases hn : n < 0 ∨ (D.N : Int) ≤ n
  · have e : D.why n b = 1 := by simp [Dsk.why, hg, hn]
    have e2 : D.wrong n = 1 := by simp [Dsk.wrong, hn]
    have hwr := wrong_any h n
    rw [e2] at hwr
    rw [e]
    go_enter Try.func40, Try.ntmps40
    go_wp2_with (go_at_call 87; refine hwr.mono ?_; rintro e w' ⟨rfl, rfl⟩)
    go_ret
    exact ⟨rfl, rfl⟩
  have e2 : D.wrong n = 0 := by unfold Dsk.wrong; rw [if_neg hn]
  have hwr := wrong_any h n
  rw [e2] at hwr
  by_cases hl : 256 < b.length
  · have e : D.why n b = 3 := by simp [Dsk.why, hg, hn, hl]
    have hl' : (256 : Int) < (b.length : Int) := by omega
    rw [e]
    go_enter Try.func40, Try.ntmps40
    go_wp2_with (go_at_call 87; refine hwr.mono ?_; rintro e w' ⟨rfl, rfl⟩)
    go_ret
    exact ⟨rfl, rfl⟩
  by_cases hf : D.full = true
  · have e : D.why n b = 4 := by simp [Dsk.why, hg, hn, hl, hf]
    have hl' : (b.length : Int) ≤ 256 := by omega
    rw [e]
    rw [hf] at c4
    go_enter Try.func40, Try.ntmps40
    go_wp2_with (go_at_call 87; refine hwr.mono ?_; rintro e w' ⟨rfl, rfl⟩)
    go_ret
    exact ⟨rfl, rfl⟩
  · exact absurd (by simp [Dsk.why, hg, hn, hl, hf]) hw

/-- Write -/
theorem write_any {w : World} {B p : Nat} {vs vn vl : Value} {D : Dsk} (h : DiskV w B p vs vn vl D) (hlim : D.l.length + 1 ≤ 1048576) (n : Int) (a : Option Addr) (b : List UInt8) (cap : Nat) (hb : BytesAt w a b) (hm : b.length ≤ 140737488355328) :
    Calls Try.prog 40 #[.pointer (some ⟨p, 0, none⟩), .int .i64 n, .slice a b.length cap] w fun e w' => e = .returned (.int .i64 (D.why n b)) ∧ Turned w B p (foot p vs vn vl) (D.write n b) w' := by
  by_cases hw : D.why n b = 0
  · have hc := hw
    unfold Dsk.why at hc
    split at hc
    · exact absurd hc (by decide)
    split at hc
    · exact absurd hc (by decide)
    split at hc
    · exact absurd hc (by decide)
    split at hc
    · exact absurd hc (by decide)
    rename_i h1 h2 h3 h4
    obtain ⟨k, rfl⟩ : ∃ k : Nat, n = (k : Int) := ⟨n.toNat, by omega⟩
    have := write_ok h k a b cap hb (by simpa using h1) (by simpa using h4) (by omega) (by unfold Dsk.wrong; rw [if_neg h2]) hlim (by omega) hw
    rw [hw]
    exact this
  · refine (write_no h n a b cap hm hw).mono ?_
    rintro e w' ⟨rfl, rfl⟩
    have : D.write n b = D := by unfold Dsk.write; rw [if_neg hw]
    rw [this]
    exact ⟨rfl, Turned.refl h⟩
end Go.Proofs.Ytdinnkacilgmmaa
namespace Go.Proofs.Ytdinnkacilgmmaa
open Go.RowKit

theorem splice_all (s : List UInt8) (b : List UInt8) (h : b.length = s.length) : splice s 0 b = b := by
  simp [splice, h]

set_option maxRecDepth 100000 in
theorem sync_any {w : World} {B p : Nat} {vs vn vl : Value} {D : Dsk} (h : DiskV w B p vs vn vl D) :
    Calls Try.prog 43 #[.pointer (some ⟨p, 0, none⟩)] w fun e w' => e = .returned (.int .i64 D.whySync) ∧ Turned w B p (foot p vs vn vl) D.sync w' := by
  obtain ⟨c0, c1, -, c3, -, c5⟩ := h.cell
  have f5 := thaw_of (i := 5) h.at_
  have f2 := thaw_of (i := 2) h.at_
  by_cases hg : D.gone = true
  · have e1 : D.whySync = 21 := by simp [Dsk.whySync, hg]
    have e2 : D.sync = D := by simp [Dsk.sync, hg]
    rw [e1, e2]
    rw [hg] at c5
    go_enter Try.func43, Try.ntmps43
    go_wp2
    go_ret
    exact ⟨rfl, Turned.refl h⟩
  have hg : D.gone = false := by simpa using hg
  by_cases hb : D.bad = true
  · have e1 : D.whySync = 20 := by simp [Dsk.whySync, hg, hb]
    have e2 : D.sync = { D with gone := true } := by simp [Dsk.sync, hg, hb]
    rw [e1, e2]
    rw [hg] at c5
    rw [hb] at c3
    go_enter Try.func43, Try.ntmps43
    go_wp2
    go_ret
    exact ⟨rfl, h.flag 5 _ _ rfl rfl rfl⟩
  have hb : D.bad = false := by simpa using hb
  have e1 : D.whySync = 0 := by simp [Dsk.whySync, hg, hb]
  have e2 : D.sync = { D with safe := D.now, l := [] } := by simp [Dsk.sync, hg, hb]
  have hwf := h.wf.sync
  rw [e2] at hwf
  rw [e1, e2]
  rw [hg] at c5
  rw [hb] at c3
  have hnn := h.wf.now
  have hp' := h.wf.pos'
  have hne : D.now ≠ [] := by intro e; rw [e] at hnn; simp at hnn; omega
  have hns : D.safe ≠ [] := by intro e; rw [e] at hp'; simp at hp'
  obtain ⟨gs, caps, curs, es, -, hgs, hles, -, hszs, -⟩ := h.safe.row hns
  obtain ⟨gn, capn, curn, en, -, hgn, hlen, -, hszn, -⟩ := h.now.row hne
  obtain ⟨an, cn', en', -, -, hbn⟩ := h.now.shape
  rw [en] at en'
  cases en'
  have hgo : vs.ownBlock = some gs := by rw [es]; rfl
  have hgon : vn.ownBlock = some gn := by rw [en]; rfl
  have hap : gs ≠ gn := by intro e; exact h.apart (by rw [hgo, hgon, e])
  have hpg : p ≠ gs := by intro e; exact h.ne_sl.1 (by rw [hgo, e])
  have hss := h.safe
  rw [es] at c0 hss
  rw [en] at c1
  rw [hnn] at c1
  have HNN := Lib.hid hnn
  clear hnn
  go_enter Try.func43, Try.ntmps43
  go_wp2_with fail
  go_region_held3 (fun w' => w'.cell? ⟨p, 0, none⟩ = some (.slice (some ⟨gs, 0, none⟩) D.safe.length caps) ∧ w'.cell? ⟨p, 1, none⟩ = some (.slice (some ⟨gn, 0, none⟩) D.safe.length capn))
    (first | (refine ⟨?_, ?_⟩ <;> simpa using (by assumption)) | exact ⟨m5.cell' (by simpa using c0) hpg, m5.cell' (by simpa using c1) hpg⟩)
    (first
      | (refine copyB_step rfl _ _ rfl gs 0 D.safe.length caps rfl (some ⟨gn, 0, none⟩) D.safe.length capn rfl D.now HNN.out (Nat.le_refl _) (by exact hbn) curs 5 (by exact hgs) (by rw [HNN.out, Nat.zero_add]; omega) ?_; intro w5 hw5 m5))
  have m5' : Mod (fun k => k = gs) w w5 := (Mod.drew (fun k => k = gs) w).trans' m5
  have hp5 := m5'.obj h.at_ hpg
  have d2 : w5.cell? ⟨p, 2, none⟩ = some vl := by rw [cell_of_row w5 p 2 _ 129 (0, 0) hp5]; rfl
  have g2 := thaw_of (i := 2) hp5
  have hs5 := OwnB.laid (hss.mod (Mod.drew (fun _ => False) w) (fun _ _ => id)) (by exact hgs) hw5 (by rw [HNN.out]; omega)
  rw [splice_all _ _ HNN.out] at hs5
  go_wp2
  go_ret
  have m6 : Mod (fun k => k = p) w5 (w5.setCell ⟨p, 2, none⟩ (.slice none 0 0)) := Mod.setCell _ _ _ rfl
  refine ⟨rfl, (m5'.mono (fun _ _ e => .inr (.inl (by rw [hgo, e])))).trans m6 (fun _ _ e => .inl e), _, ⟨vs, vn, .slice none 0 0, ⟨hwf, ?_, h.hp, ?_, ?_, OwnC.nil _ _, h.apart⟩, rfl⟩, ?_⟩
  · rw [setCell_block hp5, hg, hb]; rfl
  · rw [es]
    exact hs5.mod m6 (fun k hk e => by cases hk; exact hpg e.symm)
  · show OwnB _ B vn D.now
    refine (h.now.mod m5' (fun k hk e => ?_)).mod m6 (fun k hk e => h.ne_sl.2.1 (by rw [hk, e]))
    rw [hgon] at hk
    cases hk
    exact hap e.symm
  · rintro k (e | e | e | e)
    · exact .inl (.inl e)
    · exact .inl (.inr (.inl e))
    · exact .inl (.inr (.inr (.inl e)))
    · simp [Value.ownBlock] at e
end Go.Proofs.Ytdinnkacilgmmaa
namespace Go.Proofs.Ytdinnkacilgmmaa
open Go.RowKit

/-- a disk of an image -/
def Dsk.of (l : List UInt8) : Dsk := ⟨l, [], false, false, false⟩
def imageOk (n : Nat) : Prop := n / 256 * 256 = n ∧ 1 ≤ n / 256 ∧ n / 256 ≤ 4096
instance (n : Nat) : Decidable (imageOk n) := by unfold imageOk; exact inferInstance

theorem Dsk.of_wf (l : List UInt8) (h : imageOk l.length) : (Dsk.of l).wf :=
  ⟨h.1.symm, h.2.1, h.2.2, fun x hx => by cases hx⟩

/-- a new disk: of blocks that were not there -/
def Born (w : World) (B : Nat) (v : Value) (D : Dsk) (w' : World) : Prop :=
  ∃ p F, v = .pointer (some ⟨p, 0, none⟩) ∧ DiskAt w' B p D F ∧ Mod (fun _ => False) w w' ∧ ∀ k, F k → w.heap.size ≤ k

theorem born_of {w w2 : World} {B : Nat} {v1 v2 : Value} {l : List UInt8} (hB : B ≤ w.heap.size) (hi : imageOk l.length) (hm : Mod (fun _ => False) w w2) (o1 : OwnB w2 B v1 l) (o2 : OwnB w2 B v2 l)
    (n1 : ∀ k, v1.ownBlock = some k → w.heap.size ≤ k) (n2 : ∀ k, v2.ownBlock = some k → w.heap.size ≤ k) (hap : v1.ownBlock ≠ v2.ownBlock) :
    Born w B (.pointer (some ⟨w2.heap.size, 0, none⟩)) (Dsk.of l) (w2.alloc (.cells #[v1, v2, .slice none 0 0, .bool false, .bool false, .bool false] 129)) := by
  have ma : Mod (fun _ => False) w2 (w2.alloc (.cells #[v1, v2, .slice none 0 0, .bool false, .bool false, .bool false] 129)) := Mod.alloc _ _ _
  refine ⟨w2.heap.size, _, rfl, ⟨v1, v2, .slice none 0 0, ⟨Dsk.of_wf l hi, heap_alloc_new w2 _, Nat.le_trans hB hm.size, o1.mod ma (fun _ _ => id), ?_, OwnC.nil _ _, hap⟩, rfl⟩, hm.trans' ma, ?_⟩
  · exact o2.mod ma (fun _ _ => id)
  · rintro k (e | e | e | e)
    · rw [e]; exact hm.size
    · exact n1 k e.symm
    · exact n2 k e.symm
    · simp [Value.ownBlock] at e

set_option maxRecDepth 100000 in
theorem load_ok {w : World} {B : Nat} (hB : B ≤ w.heap.size) (a : Option Addr) (l : List UInt8) (cap : Nat) (hb : BytesAt w a l) (hm : l.length ≤ 140737488355328) (hi : imageOk l.length) :
    Calls Try.prog 36 #[.slice a l.length cap] w fun e w' => ∃ v, e = .returned (.tuple #[v, .int .i64 0]) ∧ Born w B v (Dsk.of l) w' := by
  have h1 : (l.length : Int) / 256 * 256 = (l.length : Int) := by have := hi.1; omega
  have h2 : 1 ≤ (l.length : Int) / 256 := by have := hi.2.1; omega
  have h3 : (l.length : Int) / 256 ≤ 4096 := by have := hi.2.2; omega
  have ha : a = none → l = [] ∧ cap = 0 := by
    rintro rfl
    exfalso
    have := hi.2.1
    obtain ⟨_, _, e, _⟩ := hb (by intro e; rw [e] at this; simp at this)
    cases e
  go_enter Try.func36, Try.ntmps36
  go_wp2_with fail
  refine (clone_any a l cap w B hB hm ha hb).mono ?_
  rintro e w1 ⟨v1, rfl, o1, m1, n1⟩
  have o1' := o1
  obtain ⟨a1, c1, rfl, -, -, -⟩ := o1.shape
  go_wp2_with fail
  refine (clone_any a l cap w1 B (Nat.le_trans hB m1.size) hm ha (hb.mod m1 (fun _ _ _ => id))).mono ?_
  rintro e w2 ⟨v2, rfl, o2, m2, n2⟩
  have o2' := o2
  obtain ⟨a2, c2, rfl, -, -, -⟩ := o2.shape
  go_wp2
  go_ret2
  refine ⟨_, rfl, born_of hB hi (m1.trans' m2) (o1'.mod m2 (fun _ _ => id)) o2' n1 (fun k hk => Nat.le_trans m1.size (n2 k hk)) ?_⟩
  intro e
  obtain ⟨k, hk⟩ : ∃ k, (Value.slice a1 l.length c1).ownBlock = some k := by
    have := hi.2.1
    obtain ⟨g, _, _, e2, _⟩ := o1'.row (by intro e; rw [e] at this; simp at this)
    exact ⟨g, by rw [e2]; rfl⟩
  have h4 := (World.ownsRow.lt o1' k hk).2
  have h5 := n2 k (by rw [← e, hk])
  omega

set_option maxRecDepth 100000 in
theorem load_no {w : World} (a : Option Addr) (l : List UInt8) (cap : Nat) (hm : l.length ≤ 140737488355328) (hi : ¬ imageOk l.length) :
    Calls Try.prog 36 #[.slice a l.length cap] w fun e w' => e = .returned (.tuple #[.pointer none, .int .i64 1]) ∧ w = w' := by
  generalize l.length = n at *
  by_cases h1 : (n : Int) / 256 * 256 = (n : Int)
  · by_cases h2 : 1 ≤ (n : Int) / 256
    · have h3 : 4096 < (n : Int) / 256 := by unfold imageOk at hi; omega
      go_enter Try.func36, Try.ntmps36
      go_wp2
      go_ret2
      exact ⟨rfl, rfl⟩
    · have h2' : (n : Int) / 256 < 1 := by omega
      go_enter Try.func36, Try.ntmps36
      go_wp2
      go_ret2
      exact ⟨rfl, rfl⟩
  · have h1' : ((n : Int) / 256 * 256 != (n : Int)) = true := by simpa using h1
    go_enter Try.func36, Try.ntmps36
    go_wp2
    go_ret2
    exact ⟨rfl, rfl⟩

set_option maxRecDepth 100000 in
theorem new_ok {w : World} {B : Nat} (hB : B ≤ w.heap.size) (n : Nat) (h1 : 1 ≤ n) (h2 : n ≤ 4096) :
    Calls Try.prog 31 #[.int .i64 (n : Int)] w fun e w' => ∃ v, e = .returned (.tuple #[v, .int .i64 0]) ∧ Born w B v (Dsk.of (List.replicate (n * 256) 0)) w' := by
  have hi : imageOk (List.replicate (n * 256) (0 : UInt8)).length := by rw [List.length_replicate]; unfold imageOk; omega
  have km : ∀ w : World, (Instr.makeSlice 22 (.int .i64 ((n : Int) * 256)) (.int .i64 ((n : Int) * 256))).run Try.prog w = .ok (.slice (some ⟨w.heap.size, 0, none⟩) (n * 256) (n * 256)) (w.alloc (.cells (zerosV (n * 256)) 5)) :=
    fun w => by have := run_make_bytes w (n * 256) (by omega); rw [Int.natCast_mul] at this; exact this
  have hlo : (1 : Int) ≤ (n : Int) := by omega
  have hhi : (n : Int) ≤ 4096 := by omega
  have hl := load_ok (w := w.alloc (.cells (zerosV (n * 256)) 5)) (B := B) (by simp; omega) (some ⟨w.heap.size, 0, none⟩) (List.replicate (n * 256) 0) (n * 256) (bytesAt_zeros' rfl) (by rw [List.length_replicate]; omega) hi
  rw [List.length_replicate] at hl
  go_enter Try.func31, Try.ntmps31
  go_wp2_with fail
  refine hl.mono ?_
  rintro e w1 ⟨v, rfl, p, F, rfl, d1, m1, n1⟩
  go_wp2
  go_ret2
  exact ⟨_, rfl, p, F, rfl, d1, (Mod.alloc _ _ _).trans' m1, fun k hk => by have := n1 k hk; simp at this; omega⟩

theorem new_no {w : World} (n : Int) (h : n < 1 ∨ 4096 < n) :
    Calls Try.prog 31 #[.int .i64 n] w fun e w' => e = .returned (.tuple #[.pointer none, .int .i64 1]) ∧ w = w' := by
  by_cases h1 : n < 1
  · go_enter Try.func31, Try.ntmps31
    go_wp2
    go_ret2
    exact ⟨rfl, rfl⟩
  · have h2 : 4096 < n := by omega
    go_enter Try.func31, Try.ntmps31
    go_wp2
    go_ret2
    exact ⟨rfl, rfl⟩
end Go.Proofs.Ytdinnkacilgmmaa
namespace Go.Proofs.Ytdinnkacilgmmaa
open Go.RowKit

/-- what a slice of numbers reads as -/
def IntsAt (w : World) (a : Option Addr) (l : List Int) : Prop :=
  l ≠ [] → ∃ b off, a = some ⟨b, off, none⟩ ∧ ∀ j (h : j < l.length), w.cell? ⟨b, off + j, none⟩ = some (.int .i64 l[j])

theorem IntsAt.mod {F : Nat → Prop} {w w' : World} {a : Option Addr} {l : List Int} (h : IntsAt w a l) (hm : Mod F w w') (hF : ∀ x, a = some x → l ≠ [] → ¬ F x.block) : IntsAt w' a l := by
  intro hl
  obtain ⟨b, off, rfl, hc⟩ := h hl
  exact ⟨b, off, rfl, fun j hj => hm.cell' (hc j hj) (hF ⟨b, off, none⟩ rfl hl)⟩

theorem BytesAt.take0 {w : World} {a : Option Addr} {l : List UInt8} (h : BytesAt w a l) (k : Nat) : BytesAt w a (l.take k) := by
  intro hne
  have hl : l ≠ [] := by intro e; subst e; simp at hne
  obtain ⟨b, off, rfl, hc⟩ := h hl
  refine ⟨b, off, rfl, fun j hj => ?_⟩
  have hj' : j < l.length := by simp at hj; omega
  rw [hc j hj']
  simp

theorem run_storeX (w : World) (X : List Value) (hX : X.length = chgSize) (h1 : ∀ u ∈ X, u.oneCell' = true) :
    (storeCells ⟨w.heap.size, 0, none⟩ X).run Try.prog (w.alloc (.cells Try.zeroCells132 132)) = .ok () (w.alloc (.cells X.toArray 132)) := by
  rw [zero132]
  have h := run_storeCells_from (P := Try.prog) w.heap.size 132 X 0 (chg (0, zeros256)).toArray (w.alloc (.cells (chg (0, zeros256)).toArray 132)) (heap_alloc_new w _) (by rw [Nat.zero_add, List.size_toArray, hX, chg_length (0, zeros256) zeros256_length]) h1
  rw [h]
  simp only [List.take_zero, List.nil_append]
  rw [setRow_alloc]

/-- the cells of write number i -/
theorem OwnC.range {w : World} {B g n cap : Nat} {l : List (Nat × List UInt8)} (h : OwnC w B (.slice (some ⟨g, 0, none⟩) n cap) l) (h256 : ∀ x ∈ l, x.2.length = 256) (i : Nat) (hi : i < l.length) :
    w.rangeAt g (i * chgSize) (chg l[i]) := by
  intro j v hv
  have hlen : j < chgSize := by
    have := (List.getElem?_eq_some_iff.1 hv).1
    rwa [chg_length _ (h256 _ (List.getElem_mem hi))] at this
  have hc := World.ownsRow.cells h (g := g) rfl (i * chgSize + j) v ?_
  · rw [Addr.add_mid, Nat.zero_add] at hc; exact hc
  · rw [← hv]
    clear h hv
    induction l generalizing i with
    | nil => simp at hi
    | cons x r ih =>
      have hx := chg_length x (h256 x List.mem_cons_self)
      show (chg x ++ chgs r)[i * chgSize + j]? = _
      cases i with
      | zero => rw [List.getElem?_append_left (by omega)]; simp
      | succ i =>
        rw [List.getElem?_append_right (by rw [hx, Nat.add_mul]; omega), hx, show (i + 1) * chgSize + j - chgSize = i * chgSize + j by rw [Nat.add_mul]; omega]
        simpa using ih (fun y hy => h256 y (List.mem_cons_of_mem _ hy)) i (by simpa using hi)

theorem info129_size : (Try.prog.info? 129).map (·.size) = some 6 := by kernel_rfl

set_option maxHeartbeats 1000000 in
set_option maxRecDepth 100000 in
theorem crash_any {w : World} {B p : Nat} {vs vn vl : Value} {D : Dsk} (h : DiskV w B p vs vn vl D) (a : Option Addr) (ks : List Int) (cap : Nat) (hk : IntsAt w a ks) (hkf : ∀ x, a = some x → ks ≠ [] → ¬ foot p vs vn vl x.block)
    (hm : ks.length ≤ 140737488355328) :
    Calls Try.prog 33 #[.pointer (some ⟨p, 0, none⟩), .slice a ks.length cap] w fun e w' => e = .returned (.int .i64 0) ∧ Turned w B p (foot p vs vn vl) (D.crash ks) w' := by
  obtain ⟨c0, c1, c2, c3, c4, c5⟩ := h.cell
  obtain ⟨al, capl, el, hle, hcm⟩ := h.l.shape
  rw [el] at c2
  have hmx : D.l.length ≤ 9223372036854775807 := by unfold maxLen at hcm; omega
  clear hcm
  have hp' := h.wf.pos'
  have hns : D.safe ≠ [] := by intro e; rw [e] at hp'; simp at hp'
  obtain ⟨gs, caps, curs, es, -, hgs, hles, -, hszs, -⟩ := h.safe.row hns
  go_enter Try.func33, Try.ntmps33
  go_wp2_with fail
  go_loopw [5, 6, 14] (fun _ _ v14 wr => ∃ (i : Nat) (s : List UInt8), i ≤ D.l.length ∧ v14 = .int .i64 (i : Int) ∧ s.length = D.safe.length ∧ OwnB wr B vs s ∧ Mod (fun k => k = gs) w wr ∧ crashed s (D.l.drop i) (ks.drop i) = crashed D.safe D.l ks)
    (fun _ _ v14 _ => D.l.length - (intOf v14).toNat)
  case atStart => exact ⟨0, D.safe, Nat.zero_le _, rfl, rfl, h.safe, Mod.refl _ _, by simp⟩
  case round =>
    obtain ⟨i, s, hi, rfl, hsl, hos, hmr, hcr⟩ := hrel
    by_cases hlt : i < D.l.length
    · have hox := h.l
      rw [el] at hox
      obtain ⟨gl, rfl⟩ : ∃ g, al = some ⟨g, 0, none⟩ := by
        rcases hox.2 with ⟨_, h0⟩ | ⟨g, cap', cur, e, -⟩
        · omega
        · cases e; exact ⟨g, rfl⟩
      have hlt' : (i : Int) < (D.l.length : Int) := by omega
      have h256 : ∀ x ∈ D.l, x.2.length = 256 := fun x hx => (h.wf.l x hx).2
      have hrg := OwnC.range hox h256 i hlt
      have hgl : vl.ownBlock = some gl := by rw [el]; rfl
      have hgs' : vs.ownBlock = some gs := by rw [es]; rfl
      have hne1 : ∀ k, vl.ownBlock = some k → ¬ k = gs := fun k hk e => (h.ne_sl.2.2.2 k hk).1 (by rw [hgs', e])
      have hrg' : wr.rangeAt gl (i * 257) (chg D.l[i]) := fun j v hv => hmr.cell' (hrg j v hv) (hne1 gl hgl)
      have hxl := h.wf.l D.l[i] (List.getElem_mem hlt)
      have hX : (chg D.l[i]).length = 257 := chg_length _ hxl.2
      have hX1 := chg_oneCell D.l[i]
      have hinf : (Try.prog.info? 132).map (·.size) = some (chg D.l[i]).length := by rw [info132_size, hX]; rfl
      have kst := run_storeX wr (chg D.l[i]) hX hX1
      obtain ⟨q, hq⟩ : ∃ q, wr.heap.size = q := ⟨_, rfl⟩
      rw [hq] at kst
      have hcr' : crashed (lay s D.l[i].1 (D.l[i].2.take (clamp (ks.getD i 0)))) (D.l.drop (i + 1)) (ks.drop (i + 1)) = crashed D.safe D.l ks := by
        rw [← hcr, List.drop_eq_getElem_cons hlt, crashed]
        congr 2
        · cases hd : ks.drop i with
          | nil =>
            have hge : ks.length ≤ i := by simpa using hd
            simp [hge]
          | cons k r =>
            have : ks[i]? = some k := by have := congrArg (·[0]?) hd; simpa using this
            simp [this]
        · rw [List.tail_drop]
      generalize hxx : D.l[i] = x at *
      obtain ⟨n, b⟩ := x
      have hcells : ∀ w' : World, w'.heap[q]? = some (.cells (chg (n, b)).toArray 132 (0, 0)) → w'.cell? ⟨q, 0, none⟩ = some (.int .i64 (n : Int)) ∧ BytesAt w' (some ⟨q, 1, none⟩) b := fun w' h' => ⟨by rw [cell_of_row w' q 0 _ 132 (0, 0) h']; simp [chg], (chg_cells (x := (n, b)) h').2⟩
      have HCELLS := Lib.hid hcells
      have HCR := Lib.hid hcr'
      clear hcells hcr' hcr hxx
      generalize hXX : chg (n, b) = X at *
      by_cases hik : i < ks.length
      · obtain ⟨bk, ok, rfl, hck⟩ := hk (by intro e; rw [e] at hik; simp at hik)
        have hik' : (i : Int) < (ks.length : Int) := by omega
        go_wp2_with (first | (refine wpList_load_mid rfl 132 (.tmp 17) rfl gl (i * 257) rfl X _ hrg' Try.underlying132 rfl hinf ?_))
        have hpg : ¬ p = gs := fun e => h.ne_sl.1 (by rw [hgs', e])
        have hpr := hmr.obj h.at_ hpg
        have hbs : bk ≠ gs := fun e => hkf ⟨bk, ok, none⟩ rfl (by intro e; rw [e] at hik; simp at hik) (.inr (.inl (by rw [hgs', e])))
        have m2 : Mod (fun _ => False) wr (wr.alloc (.cells X.toArray 132)) := Mod.alloc _ _ _
        have hw2q : (wr.alloc (.cells X.toArray 132)).heap[q]? = some (.cells X.toArray 132 (0, 0)) := by rw [← hq]; exact heap_alloc_new wr _
        have hpq : (wr.alloc (.cells X.toArray 132)).cell? ⟨p, 0, none⟩ = some vs := by rw [cell_of_row _ p 0 _ 129 (0, 0) (m2.obj hpr id)]; rfl
        have hkc : (wr.alloc (.cells X.toArray 132)).cell? ⟨bk, ok + i, none⟩ = some (.int .i64 ks[i]) := m2.cell' (hmr.cell' (hck i hik) hbs) id
        have ho2 := hos.mod m2 (fun _ _ => id)
        have m02 := hmr.trans m2 (fun _ _ e => e.elim)
        have hsz2 : q < (wr.alloc (.cells X.toArray 132)).heap.size := by simp [← hq]
        generalize wr.alloc (.cells X.toArray 132) = w2 at *
        obtain ⟨hqn, hqb⟩ := HCELLS.out w2 hw2q
        rw [es, ← hsl] at hpq
        rw [es, ← hsl] at ho2
        obtain ⟨gs', caps', curs', es', -, hgs2, hles2, -, hszs2, -⟩ := ho2.row (by intro e; rw [e] at hsl; simp at hsl; omega)
        cases es'
        have hnN : n < D.N := hxl.1
        have hN : D.N * 256 ≤ s.length := by rw [hsl]; exact Nat.le_of_eq h.wf.len.symm
        have hs1 : s.length ≤ 1048576 := by rw [hsl]; exact h.wf.bound
        have HSL := Lib.hid hsl
        have HXL := Lib.hid hxl
        clear hsl hxl
        generalize hkv : ks[i] = kv at *
        obtain ⟨mx, hmx⟩ : ∃ mx : Int, mx = (if 0 > kv then 0 else kv) := ⟨_, rfl⟩
        obtain ⟨m, hmm⟩ : ∃ m : Nat, m = clamp kv := ⟨_, rfl⟩
        have hmn : (m : Int) = if 256 < mx then 256 else mx := by rw [hmm, hmx]; unfold clamp; split <;> split <;> omega
        have kmx : ∀ (w : World) (ts : Array TypeId) (t : TypeId), (Builtin.max_ ts t #[.int .i64 kv, .int .i64 0]).run Try.prog w = .ok (.int .i64 mx) w := fun w ts t => by rw [run_max_int2, hmx]
        have kmn : ∀ (w : World) (ts : Array TypeId) (t : TypeId), (Builtin.min_ ts t #[.int .i64 mx, .int .i64 256]).run Try.prog w = .ok (.int .i64 (m : Int)) w := fun w ts t => by rw [run_min_int2, hmn]
        have hm256 : m ≤ 256 := by rw [hmm]; unfold clamp; omega
        have hm256' : (m : Int) ≤ 256 := by omega
        have HMM := Lib.hid hmm
        have hbm : (b.take m).length = m := by rw [List.length_take, HXL.out.2]; omega
        have hfit : n * 256 + (b.take m).length ≤ curs'.size := by rw [hbm]; omega
        have hqg : ¬ q = gs := by
          intro e
          have := (h.lt gs (.inr (.inl (by rw [hgs'])))).2
          have := hmr.size
          omega
        clear hmx hmn hmm
        go_region_held3 (fun w' => w'.cell? ⟨p, 0, none⟩ = some (.slice (some ⟨gs, 0, none⟩) s.length caps) ∧ w'.cell? ⟨q, 0, none⟩ = some (.int .i64 (n : Int)) ∧ w'.cell? ⟨bk, ok + i, none⟩ = some (.int .i64 kv))
          (first | (refine ⟨?_, ?_, ?_⟩ <;> simpa using (by assumption)) | exact ⟨m5.cell' (by simpa using hpq) hpg, m5.cell' (by simpa using hqn) hqg, m5.cell' (by simpa using hkc) hbs⟩)
          (first
            | (go_at_call 85; (with_reducible refine (at_any (some ⟨gs, 0, none⟩) s.length D.N caps n _ hN hles2 hnN hs1 gs 0 rfl).mono ?_); rintro e w' ⟨rfl, rfl⟩)
            | (refine copyB_step rfl _ _ rfl gs (n * 256) 256 256 rfl (some ⟨q, 1, none⟩) m 256 rfl (b.take m) hbm hm256 (by exact hqb.take0 m) curs' 5 (by exact hgs2) hfit ?_; intro w5 hw5 m5))
        all_goals
          go_wp2
          go_roundw
          case rel =>
            have hl5 := lay_length s n (b.take m) (by rw [hbm]; omega)
            refine ⟨i + 1, lay s n (b.take m), by omega, by go_num, hl5.trans HSL.out, ?_, m02.trans ((Mod.drew (fun k => k = gs) w2).trans' m5) (fun _ _ e => e), ?_⟩
            · rw [es, ← HSL.out]
              exact OwnB.laid (ho2.mod (Mod.drew (fun _ => False) w2) (fun _ _ => id)) (by exact hgs2) hw5 (by rw [hbm]; omega)
            · rw [HMM.out, ← HCR.out, ← hkv]
              simp [hik]
          case measure => simp [intOf]; omega
      · have hik' : (ks.length : Int) ≤ (i : Int) := by omega
        go_wp2_with (first | (refine wpList_load_mid rfl 132 (.tmp 17) rfl gl (i * 257) rfl X _ hrg' Try.underlying132 rfl hinf ?_))
        go_roundw
        case rel =>
          have m2 : Mod (fun _ => False) wr (wr.alloc (.cells X.toArray 132)) := Mod.alloc _ _ _
          refine ⟨i + 1, s, by omega, by go_num, hsl, hos.mod m2 (fun _ _ => id), hmr.trans m2 (fun _ _ e => e.elim), ?_⟩
          rw [← HCR.out]
          have hge : ks.length ≤ i := by omega
          simp [hge, clamp, lay_nil]
        case measure => simp [intOf]; omega
    · obtain rfl : i = D.l.length := by omega
      have hsc : s = crashed D.safe D.l ks := by rw [← hcr, List.drop_length]; rfl
      have hgs' : vs.ownBlock = some gs := by rw [es]; rfl
      have hpg : ¬ p = gs := fun e => h.ne_sl.1 (by rw [hgs', e])
      have hpr := hmr.obj h.at_ hpg
      have d0 : wr.cell? ⟨p, 0, none⟩ = some vs := by rw [cell_of_row _ p 0 _ 129 (0, 0) hpr]; rfl
      obtain ⟨a9, cs9, es2, -, -, hbs2⟩ := hos.shape
      rw [es2] at d0
      have hs1 : s.length ≤ 1048576 := by rw [hsl]; exact h.wf.bound
      go_wp2_with fail
      have hso : s ≠ [] := by intro e; rw [e] at hsl; simp at hsl; omega
      have ha9 : a9 = none → s = [] ∧ cs9 = 0 := by
        rintro rfl
        exfalso
        obtain ⟨_, _, e, _⟩ := hbs2 hso
        cases e
      have hwf := h.wf.crash ks
      have hDs : (D.crash ks).safe = s := hsc.symm
      have hDn : (D.crash ks).now = s := by rw [← hDs]; rfl
      have HSC := Lib.hid hsc
      have HSL := Lib.hid hsl
      clear hsc hsl
      refine wp_region_held_drew (S := fun w' => w'.cell? ⟨p, 0, none⟩ = some (.slice a9 s.length cs9)) (by kernel_rfl) (by simpa using d0) (fun hHeld => ?_)
      refine wpAnyH_take (i := 0) (oi := { dst := some 40, op := Op.move (Operand.tmp 0), type := 40, pos := "disk.go:157", after := #[], guard := none }) (v := .pointer (some ⟨p, 0, none⟩)) rfl (by kernel_rfl) (by kernel_rfl) (by kernel_rfl) (fun _ _ _ h => h) (Or.inl ⟨by rfl, fun w hSw => by clear hSw; go_simp⟩) (by assumption) ?_
      simp only [Act.put, List.setIfInBounds_toArray, List.set_cons_zero, List.set_cons_succ]
      refine wpAnyH_take (i := 1) (oi := { dst := some 41, op := Op.move (Operand.tmp 0), type := 40, pos := "disk.go:157", after := #[], guard := none }) (v := .pointer (some ⟨p, 0, none⟩)) rfl (by kernel_rfl) (by kernel_rfl) (by kernel_rfl) (fun _ _ _ h => h) (Or.inl ⟨by rfl, fun w hSw => by clear hSw; go_simp⟩) (by assumption) ?_
      simp only [Act.put, List.setIfInBounds_toArray, List.set_cons_zero, List.set_cons_succ]
      refine wpAnyH_take (i := 2) (oi := { dst := some 42, op := Op.nilCheck (Operand.tmp 41), type := 0, pos := "disk.go:157", after := #[{ on := 1, ground := Ground.data }], guard := none }) (v := .pointer (some ⟨p, 0, none⟩)) rfl (by kernel_rfl) (by kernel_rfl) (by kernel_rfl) (fun _ _ _ h => h) (Or.inl ⟨by rfl, fun w hSw => by clear hSw; go_simp⟩) (by assumption) ?_
      simp only [Act.put, List.setIfInBounds_toArray, List.set_cons_zero, List.set_cons_succ]
      refine wpAnyH_take (i := 3) (oi := { dst := some 43, op := Op.fieldAddr 129 (Operand.tmp 42) 0, type := 0, pos := "disk.go:157", after := #[{ on := 2, ground := Ground.data }], guard := none }) (v := .pointer (some ⟨p, 0, none⟩)) rfl (by kernel_rfl) (by kernel_rfl) (by kernel_rfl) (fun _ _ _ h => h) (Or.inl ⟨by rfl, fun w hSw => by clear hSw; go_simp⟩) (by assumption) ?_
      simp only [Act.put, List.setIfInBounds_toArray, List.set_cons_zero, List.set_cons_succ]
      refine wpAnyH_take (i := 4) (oi := { dst := some 44, op := Op.load 22 (Operand.tmp 43), type := 22, pos := "disk.go:157", after := #[{ on := 3, ground := Ground.data }], guard := none }) (v := .slice a9 s.length cs9) rfl (by kernel_rfl) (by kernel_rfl) (by kernel_rfl) (fun _ _ _ h => h) (Or.inl ⟨by rfl, fun w hSw => by have hS1 := hSw; clear hSw; dsimp only at hS1; go_simp⟩) (by assumption) ?_
      simp only [Act.put, List.setIfInBounds_toArray, List.set_cons_zero, List.set_cons_succ]
      refine wpAnyH_take (i := 5) (oi := { dst := some 45, op := Op.move (Operand.tmp 0), type := 40, pos := "disk.go:157", after := #[], guard := none }) (v := .pointer (some ⟨p, 0, none⟩)) rfl (by kernel_rfl) (by kernel_rfl) (by kernel_rfl) (fun _ _ _ h => h) (Or.inl ⟨by rfl, fun w hSw => by clear hSw; go_simp⟩) (by assumption) ?_
      simp only [Act.put, List.setIfInBounds_toArray, List.set_cons_zero, List.set_cons_succ]
      refine wpAnyH_take (i := 6) (oi := { dst := some 46, op := Op.nilCheck (Operand.tmp 45), type := 0, pos := "disk.go:157", after := #[{ on := 5, ground := Ground.data }], guard := none }) (v := .pointer (some ⟨p, 0, none⟩)) rfl (by kernel_rfl) (by kernel_rfl) (by kernel_rfl) (fun _ _ _ h => h) (Or.inl ⟨by rfl, fun w hSw => by clear hSw; go_simp⟩) (by assumption) ?_
      simp only [Act.put, List.setIfInBounds_toArray, List.set_cons_zero, List.set_cons_succ]
      refine wpAnyH_take (i := 7) (oi := { dst := some 47, op := Op.fieldAddr 129 (Operand.tmp 46) 0, type := 0, pos := "disk.go:157", after := #[{ on := 6, ground := Ground.data }], guard := none }) (v := .pointer (some ⟨p, 0, none⟩)) rfl (by kernel_rfl) (by kernel_rfl) (by kernel_rfl) (fun _ _ _ h => h) (Or.inl ⟨by rfl, fun w hSw => by clear hSw; go_simp⟩) (by assumption) ?_
      simp only [Act.put, List.setIfInBounds_toArray, List.set_cons_zero, List.set_cons_succ]
      refine wpAnyH_take (i := 8) (oi := { dst := some 48, op := Op.load 22 (Operand.tmp 47), type := 22, pos := "disk.go:157", after := #[{ on := 7, ground := Ground.data }], guard := none }) (v := .slice a9 s.length cs9) rfl (by kernel_rfl) (by kernel_rfl) (by kernel_rfl) (fun _ _ _ h => h) (Or.inl ⟨by rfl, fun w hSw => by have hS1 := hSw; clear hSw; dsimp only at hS1; go_simp⟩) (by assumption) ?_
      simp only [Act.put, List.setIfInBounds_toArray, List.set_cons_zero, List.set_cons_succ]
      refine wpAnyH_ready (rs := [9]) (by kernel_rfl) (by simp) ?_
      refine AllReadyH.cons (o := { dst := some 49, op := Op.call { callee := Callee.value (Operand.func 86), args := #[Operand.tmp 48], argTypes := #[22] }, type := 22, pos := "disk.go:157", after := #[{ on := 8, ground := Ground.data }], guard := none }) rfl (fun K hK => ?_) AllReadyH.nil
      go_simp
      refine (clone_any a9 s cs9 _ B (by have := hmr.size; have := (h.lt p foot_p); simp; omega) (by omega) ha9 (by exact hbs2)).mono ?_
      rintro e w3 ⟨v3, rfl, o3, m3, n3⟩
      have hp3 := ((Mod.drew (fun _ => False) wr).trans' m3).obj hpr id
      have d3 : w3.cell? ⟨p, 0, none⟩ = some (.slice a9 s.length cs9) := by rw [cell_of_row _ p 0 _ 129 (0, 0) hp3]; simp [es2]
      have o3' := o3
      obtain ⟨b3, k3, rfl, -, -, -⟩ := o3.shape
      simp only []
      refine hK.out _ _ d3 (fun hHeld => ?_)
      clear hK K
      refine wpAnyH_take (i := 10) (oi := { dst := some 50, op := Op.build 129 #[(0, Operand.tmp 44), (1, Operand.tmp 49)], type := 129, pos := "disk.go:157", after := #[{ on := 4, ground := Ground.data }, { on := 9, ground := Ground.data }], guard := none }) (v := .agg #[.slice a9 s.length cs9, .slice b3 s.length k3, .slice none 0 0, .bool false, .bool false, .bool false]) rfl (by kernel_rfl) (by kernel_rfl) (by kernel_rfl) (fun _ _ _ h => h) (Or.inl ⟨by rfl, fun w hSw => by clear hSw; go_simp⟩) (by assumption) ?_
      simp only [Act.put, List.setIfInBounds_toArray, List.set_cons_zero, List.set_cons_succ]
      refine wpAnyH_take (i := 11) (oi := { dst := some 51, op := Op.nilCheck (Operand.tmp 40), type := 0, pos := "disk.go:157", after := #[{ on := 0, ground := Ground.data }, { on := 0, ground := Ground.phase }, { on := 1, ground := Ground.phase }, { on := 2, ground := Ground.phase }, { on := 3, ground := Ground.phase }, { on := 4, ground := Ground.phase }, { on := 5, ground := Ground.phase }, { on := 6, ground := Ground.phase }, { on := 7, ground := Ground.phase }, { on := 8, ground := Ground.phase }, { on := 9, ground := Ground.phase }, { on := 10, ground := Ground.phase }], guard := none }) (v := .pointer (some ⟨p, 0, none⟩)) rfl (by kernel_rfl) (by kernel_rfl) (by kernel_rfl) (fun _ _ _ h => h) (Or.inl ⟨by rfl, fun w hSw => by clear hSw; go_simp⟩) (by assumption) ?_
      simp only [Act.put, List.setIfInBounds_toArray, List.set_cons_zero, List.set_cons_succ]
      refine wpAnyH_ready (rs := [12]) (by kernel_rfl) (by simp) ?_
      refine AllReadyH.cons (o := { dst := none, op := Op.store 129 (Operand.tmp 51) (Operand.tmp 50), type := 0, pos := "disk.go:157", after := #[{ on := 11, ground := Ground.data }, { on := 10, ground := Ground.data }, { on := 9, ground := Ground.chain }, { on := 0, ground := Ground.phase }, { on := 1, ground := Ground.phase }, { on := 2, ground := Ground.phase }, { on := 3, ground := Ground.phase }, { on := 4, ground := Ground.phase }, { on := 5, ground := Ground.phase }, { on := 6, ground := Ground.phase }, { on := 7, ground := Ground.phase }, { on := 8, ground := Ground.phase }, { on := 9, ground := Ground.phase }, { on := 10, ground := Ground.phase }], guard := none }) rfl (fun K hK => ?_) AllReadyH.nil
      rw [if_pos (by rfl)]
      refine wp_store_row 129 (.tmp 51) (.tmp 50) rfl p #[.slice a9 s.length cs9, .slice b3 s.length k3, .slice none 0 0, .bool false, .bool false, .bool false] rfl rfl 129 _ hp3 info129_size rfl (by simp [Value.oneCell']) ?_
      have m4 : Mod (fun k => k = p) w3 (w3.setRow p #[.slice a9 s.length cs9, .slice b3 s.length k3, .slice none 0 0, .bool false, .bool false, .bool false]) := Mod.setRow _ _ _ rfl
      have hp4 := setRow_heap w3 p _ #[.slice a9 s.length cs9, .slice b3 s.length k3, .slice none 0 0, .bool false, .bool false, .bool false] 129 _ hp3
      generalize w3.setRow p #[.slice a9 s.length cs9, .slice b3 s.length k3, .slice none 0 0, .bool false, .bool false, .bool false] = w4 at *
      simp only [Act.put]
      refine hK.out _ _ ?_ (fun hHeld => ?_)
      · show w4.cell? ⟨p, 0, none⟩ = _
        rw [cell_of_row _ p 0 _ 129 (0, 0) hp4]; rfl
      clear hK K
      refine wpAnyH_done (by kernel_rfl) ?_ _
      go_wp2
      go_ret
      rw [← es2] at hp4
      have mw3 : Mod (fun k => k = gs) w w3 := hmr.trans ((Mod.drew (fun _ => False) wr).trans' m3) (fun _ _ e => e.elim)
      have mw4 : Mod (foot p vs vn vl) w w4 := (mw3.mono (fun _ _ e => .inr (.inl (by rw [hgs', e])))).trans m4 (fun _ _ e => .inl e)
      have hsz : w.heap.size ≤ wr.heap.size := hmr.size
      have n3' : ∀ k, (Value.slice b3 s.length k3).ownBlock = some k → w.heap.size ≤ k := fun k hk => by have := n3 k hk; simp at this; omega
      refine ⟨rfl, mw4, _, ⟨vs, .slice b3 s.length k3, .slice none 0 0, ⟨hwf, ?_, h.hp, ?_, ?_, OwnC.nil _ _, ?_⟩, rfl⟩, ?_⟩
      · exact hp4
      · rw [hDs]
        refine ((hos.mod ((Mod.drew (fun _ => False) wr).trans' m3) (fun _ _ => id))).mod m4 (fun k hk e => h.ne_sl.1 (by rw [hk, e]))
      · rw [hDn]
        refine o3'.mod m4 (fun k hk e => ?_)
        have := n3' k hk
        have := (h.lt p foot_p).2
        omega
      · rw [hgs']
        intro e
        have := n3' gs e.symm
        have := (h.lt gs (.inr (.inl (by rw [hgs'])))).2
        omega
      · rintro k (e | e | e | e)
        · exact .inl (.inl e)
        · exact .inl (.inr (.inl e))
        · exact .inr (n3' k e.symm)
        · simp [Value.ownBlock] at e
end Go.Proofs.Ytdinnkacilgmmaa
namespace Go.Proofs.Ytdinnkacilgmmaa
open Go.RowKit

section
variable {w : World} {B p : Nat} {D : Dsk} {F : Nat → Prop}

theorem DiskAt.write (h : DiskAt w B p D F) (hlim : D.l.length + 1 ≤ 1048576) (n : Int) (a : Option Addr) (b : List UInt8) (m cap : Nat) (hm' : b.length = m) (hb : BytesAt w a b) (hm : b.length ≤ 140737488355328) :
    Calls Try.prog 40 #[.pointer (some ⟨p, 0, none⟩), .int .i64 n, .slice a m cap] w fun e w' => e = .returned (.int .i64 (D.why n b)) ∧ Turned w B p F (D.write n b) w' := by
  subst hm'
  obtain ⟨vs, vn, vl, h, rfl⟩ := h
  exact write_any h hlim n a b cap hb hm
theorem DiskAt.sync (h : DiskAt w B p D F) : Calls Try.prog 43 #[.pointer (some ⟨p, 0, none⟩)] w fun e w' => e = .returned (.int .i64 D.whySync) ∧ Turned w B p F D.sync w' := by
  obtain ⟨vs, vn, vl, h, rfl⟩ := h
  exact sync_any h
theorem DiskAt.fail (h : DiskAt w B p D F) : Calls Try.prog 42 #[.pointer (some ⟨p, 0, none⟩)] w fun e w' => e = .returned (.int .i64 0) ∧ Turned w B p F { D with bad := true } w' := by
  obtain ⟨vs, vn, vl, h, rfl⟩ := h
  exact fail_any h
theorem DiskAt.fullTo (h : DiskAt w B p D F) (b : Bool) : Calls Try.prog 41 #[.pointer (some ⟨p, 0, none⟩), .bool b] w fun e w' => e = .returned (.int .i64 0) ∧ Turned w B p F { D with full := b } w' := by
  obtain ⟨vs, vn, vl, h, rfl⟩ := h
  exact full_any h b
theorem DiskAt.crash (h : DiskAt w B p D F) (a : Option Addr) (ks : List Int) (m cap : Nat) (hm' : ks.length = m) (hk : IntsAt w a ks) (hkf : ∀ x, a = some x → ks ≠ [] → ¬ F x.block) (hm : ks.length ≤ 140737488355328) :
    Calls Try.prog 33 #[.pointer (some ⟨p, 0, none⟩), .slice a m cap] w fun e w' => e = .returned (.int .i64 0) ∧ Turned w B p F (D.crash ks) w' := by
  subst hm'
  obtain ⟨vs, vn, vl, h, rfl⟩ := h
  exact crash_any h a ks cap hk hkf hm
theorem DiskAt.read (h : DiskAt w B p D F) (n : Int) (C : Nat) (hC : C ≤ w.heap.size) : Calls Try.prog 37 #[.pointer (some ⟨p, 0, none⟩), .int .i64 n] w fun e w' =>
    ∃ v, e = .returned (.tuple #[v, .int .i64 (D.wrong n)]) ∧ OwnB w' C v (if D.wrong n = 0 then sector D.now n.toNat else []) ∧ Mod (fun _ => False) w w' ∧ (∀ k, v.ownBlock = some k → w.heap.size ≤ k) := by
  obtain ⟨vs, vn, vl, h, rfl⟩ := h
  exact read_any h n C hC
theorem DiskAt.image (h : DiskAt w B p D F) (C : Nat) (hC : C ≤ w.heap.size) : Calls Try.prog 34 #[.pointer (some ⟨p, 0, none⟩)] w fun e w' =>
    ∃ v, e = .returned v ∧ OwnB w' C v D.safe ∧ Mod (fun _ => False) w w' ∧ (∀ k, v.ownBlock = some k → w.heap.size ≤ k) := by
  obtain ⟨vs, vn, vl, h, rfl⟩ := h
  exact image_any h C hC
theorem DiskAt.size (h : DiskAt w B p D F) : Calls Try.prog 52 #[.pointer (some ⟨p, 0, none⟩)] w fun e w' => e = .returned (.int .i64 (D.N : Int)) ∧ w = w' := by
  obtain ⟨vs, vn, vl, h, rfl⟩ := h
  exact size_any h
theorem DiskAt.unsynced (h : DiskAt w B p D F) : Calls Try.prog 39 #[.pointer (some ⟨p, 0, none⟩)] w fun e w' => e = .returned (.int .i64 (D.l.length : Int)) ∧ w = w' := by
  obtain ⟨vs, vn, vl, h, rfl⟩ := h
  exact unsynced_any h
theorem DiskAt.dead (h : DiskAt w B p D F) : Calls Try.prog 38 #[.pointer (some ⟨p, 0, none⟩)] w fun e w' => e = .returned (.bool D.gone) ∧ w = w' := by
  obtain ⟨vs, vn, vl, h, rfl⟩ := h
  exact dead_any h
theorem DiskAt.wf (h : DiskAt w B p D F) : D.wf := by
  obtain ⟨vs, vn, vl, h, rfl⟩ := h
  exact h.wf
end

/-- a disk, and all below the mark as it was in w0 -/
def Live (w0 : World) (B p : Nat) (D : Dsk) (w : World) : Prop := Below B w0 w ∧ B ≤ w.heap.size ∧ ∃ F, DiskAt w B p D F

theorem Live.turned {w0 w w' : World} {B p : Nat} {D D' : Dsk} {F : Nat → Prop} (hb : Below B w0 w) (hB : B ≤ w.heap.size) (h : DiskAt w B p D F) (ht : Turned w B p F D' w') : Live w0 B p D' w' :=
  ⟨hb.trans (ht.1.below (fun k hk => (h.lt k hk).1) hB), Nat.le_trans hB ht.1.size, by obtain ⟨-, F', h', -⟩ := ht; exact ⟨F', h'⟩⟩
theorem Live.mod {w0 w w' : World} {B p : Nat} {D : Dsk} (h : Live w0 B p D w) (hm : Mod (fun _ => False) w w') : Live w0 B p D w' := by
  obtain ⟨hb, hB, F, hd⟩ := h
  exact ⟨hb.trans (hm.below (fun _ e => e.elim) hB), Nat.le_trans hB hm.size, F, hd.mod hm (fun _ _ => id)⟩

/-- the fixed disk -/
def K0 : Dsk := Dsk.of (List.replicate (2 * 256) 0)
def K1 : Dsk := (K0.write 0 [97]).sync
def K2 : Dsk := ((K1.write 0 [98, 99]).write 1 [100]).crash [1, 0]

theorem k0_why : K0.why 0 [97] = 0 ∧ (K0.l.length + 1 ≤ 1048576) := by decide +kernel
theorem k2_facts : K2.wrong 0 = 0 ∧ K2.wrong 1 = 0 ∧ (K1.l.length + 1 ≤ 1048576) ∧ ((K1.write 0 [98, 99]).l.length + 1 ≤ 1048576) ∧
    (sector K2.now 0).length = 256 ∧ (sector K2.now 0).getD 0 0 = 98 ∧ (sector K2.now 0).getD 1 0 = 0 ∧ (sector K2.now 1).length = 256 ∧ (sector K2.now 1).getD 0 0 = 0 := by decide +kernel

theorem intsAt_new (w : World) (l : List Int) {C : Array Value} {fz : Nat × Nat} (hC : C = (l.map fun n => Value.int .i64 n).toArray := by rfl) : IntsAt (w.alloc (.cells C 3 fz)) (some ⟨w.heap.size, 0, none⟩) l := by
  subst hC
  intro _
  refine ⟨_, _, rfl, fun j hj => ?_⟩
  rw [cell_of_row _ w.heap.size (0 + j) _ 3 fz (heap_alloc_new w _)]
  simp [hj]

set_option maxRecDepth 100000 in
theorem known3_any (w : World) : Calls Try.prog 35 #[] w fun e w' => e = .returned (.bool true) ∧ Below w.heap.size w w' := by
  have hn := new_ok (w := w) (B := w.heap.size) (Nat.le_refl _) 2 (by decide) (by decide)
  obtain ⟨f1, f2, f3, f4, f5, f6, f7, f8, f9⟩ := k2_facts
  have kc := fun w C n c => Lib.run_convert_bytes_const (P := Try.prog) w 22 5 C n c Try.underlying22 Try.underlying5
  go_enter Try.func35, Try.ntmps35
  go_wp2_with fail
  refine hn.mono ?_
  rintro e w1 ⟨v, rfl, p, F, rfl, d1, m1, n1⟩
  have l1 : Live w w.heap.size p K0 w1 := ⟨m1.below (fun _ e => e.elim) (Nat.le_refl _), m1.size, F, d1⟩
  clear d1 m1 n1 F
  go_wp2_with fail
  obtain ⟨hb, hB, F, hd⟩ := l1.mod (Mod.alloc _ _ (.cells #[.int .u8 97] 5 (1, 2)))
  refine (hd.write k0_why.2 0 _ [97] 1 1 rfl (by exact bytesAt_new' rfl rfl) (by decide)).mono ?_
  rintro e w2 ⟨rfl, ht⟩
  have l2 := Live.turned hb hB hd ht
  clear hb hB hd ht F l1
  go_wp2_with fail
  obtain ⟨hb, hB, F, hd⟩ := l2
  refine hd.sync.mono ?_
  rintro e w3 ⟨rfl, ht⟩
  have l3 : Live w w.heap.size p K1 w3 := Live.turned hb hB hd ht
  clear hb hB hd ht F
  go_wp2_with fail
  obtain ⟨hb, hB, F, hd⟩ := l3.mod (Mod.alloc _ _ (.cells #[.int .u8 98, .int .u8 99] 5 (2, 3)))
  refine (hd.write f3 0 _ [98, 99] 2 2 rfl (by exact bytesAt_new' rfl rfl) (by decide)).mono ?_
  rintro e w4 ⟨rfl, ht⟩
  have l4 := Live.turned hb hB hd ht
  clear hb hB hd ht F l3
  go_wp2_with fail
  obtain ⟨hb, hB, F, hd⟩ := l4.mod (Mod.alloc _ _ (.cells #[.int .u8 100] 5 (1, 2)))
  refine (hd.write f4 1 _ [100] 1 1 rfl (by exact bytesAt_new' rfl rfl) (by decide)).mono ?_
  rintro e w5 ⟨rfl, ht⟩
  have l5 := Live.turned hb hB hd ht
  clear hb hB hd ht F l4
  go_wp2_with fail
  have l5' := l5.mod (Mod.alloc _ _ (.cells #[.int .i64 1, .int .i64 0] 3))
  obtain ⟨-, -, F, hd0⟩ := l5
  have hlt := hd0.lt
  have hd := hd0.mod (Mod.alloc (fun _ => False) w5 (.cells #[.int .i64 1, .int .i64 0] 3)) (fun _ _ => id)
  obtain ⟨hb, hB, -⟩ := l5'
  refine (hd.crash _ [1, 0] 2 2 rfl (by exact intsAt_new _ _) (fun x hx _ => ?_) (by decide)).mono ?_
  · cases hx
    intro e
    have := (hlt _ e).2
    simp at this
  rintro e w6 ⟨rfl, ht⟩
  have l6 : Live w w.heap.size p K2 w6 := Live.turned hb hB hd ht
  clear hb hB hd ht hd0 hlt F
  go_wp2_with fail
  obtain ⟨hb, hB, F, hd⟩ := l6
  refine (hd.read 0 w.heap.size hB).mono ?_
  rintro e w7 ⟨va, rfl, o7, m7, -⟩
  have hd7 := hd.mod m7 (fun _ _ => id)
  go_wp2_with fail
  refine (hd7.read 1 w.heap.size (Nat.le_trans hB m7.size)).mono ?_
  rintro e w8 ⟨vb, rfl, o8, m8, -⟩
  have o7 := o7.mod m8 (fun _ _ => id)
  rw [if_pos f1] at o7
  rw [if_pos f2] at o8
  have hbel : Below w.heap.size w w8 := hb.trans ((m7.trans' m8).below (fun _ e => e.elim) hB)
  have o7 : OwnB w8 w.heap.size va (sector K2.now 0) := o7
  have o8 : OwnB w8 w.heap.size vb (sector K2.now 1) := o8
  rw [f2]
  generalize sector K2.now 0 = la at *
  generalize sector K2.now 1 = lb at *
  obtain ⟨ga, ca, cura, rfl, -, -, hca, -, -, -⟩ := o7.row (by intro e; rw [e] at f5; simp at f5)
  obtain ⟨gb, cb, curb, rfl, -, -, hcb, -, -, -⟩ := o8.row (by intro e; rw [e] at f8; simp at f8)
  have x0 := (o7.cellAt 0 (by omega)).1
  have x1 := (o7.cellAt 1 (by omega)).1
  have y0 := (o8.cellAt 0 (by omega)).1
  rw [show la[0]'(by omega) = 98 by rw [← f6]; simp [f5]] at x0
  rw [show la[1]'(by omega) = 0 by rw [← f7]; simp [f5]] at x1
  rw [show lb[0]'(by omega) = 0 by rw [← f9]; simp [f8]] at y0
  go_wp2
  go_ret
  exact ⟨rfl, hbel⟩
end Go.Proofs.Ytdinnkacilgmmaa
namespace Go.Proofs.Ytdinnkacilgmmaa
open Go.RowKit

/-- bytes with a mark behind them -/
def LentB (w : World) (B g cap : Nat) (l : List UInt8) : Prop := OwnB w B (.slice (some ⟨g, 0, none⟩) (l.length + 1) cap) (l ++ [0xa7])

set_option maxRecDepth 100000 in
theorem lent_any (a : Option Addr) (l : List UInt8) (cap : Nat) (w : World) (B : Nat) (hB : B ≤ w.heap.size) (hm : l.length ≤ 140737488351232) (ha : a = none → cap = 0) (hb : BytesAt w a l) :
    Calls Try.prog 46 #[.slice a l.length cap] w fun e w' => ∃ g c, e = .returned (.slice (some ⟨g, 0, none⟩) l.length c) ∧ LentB w' B g c l ∧ Mod (fun _ => False) w w' ∧ w.heap.size ≤ g := by
  go_enter Try.func46, Try.ntmps46
  go_wp2_with (first
    | (at_builtin; refine appB rfl _ _ rfl w.heap.size (.slice none 0 0) [] rfl (OwnB.nil _ _) _ _ _ l rfl rfl ha hb (by simp; omega) (Nat.le_refl _) ?_; intro v1 w1 hown1 hmod1 _; rw [List.nil_append] at hown1)
    | (at_builtin; refine appB rfl _ _ rfl w.heap.size v1 l rfl (hown1.mod (Mod.alloc (fun _ => False) _ _) (fun _ _ => id)) _ _ _ [167] rfl rfl (fun e => by cases e) (by exact bytesAt_new' rfl rfl) (by simp; omega) (by have := hmod1.size; simp; omega) ?_; intro v2 w2 hown2 hmod2 _))
  obtain ⟨g, c, cur, rfl, hg, -, hle, -, -, -⟩ := hown2.row (by simp)
  have hm12 : Mod (fun _ => False) w w2 := by
    have b1 := hmod1.below (B := w.heap.size) (by intro k hk; simp [Value.ownBlock] at hk) (Nat.le_refl _)
    have b2 := hmod2.below (B := w.heap.size) (fun j hj => (World.ownsRow.lt hown1 j hj.symm).1) (by have := hmod1.size; simp; omega)
    exact Mod.fresh ((b1.alloc hmod1.size _).trans b2) _
  rw [show (l ++ [(167 : UInt8)]).length = l.length + 1 by simp] at hown2 hle ⊢
  have hle' : (l.length : Int) ≤ (c : Int) := by omega
  clear hown1 hmod1 hmod2
  go_simp
  go_wp2
  go_ret
  exact ⟨g, c, rfl, hown2.weaken hB, hm12, hg⟩

theorem LentB.bytes {w : World} {B g cap : Nat} {l : List UInt8} (h : LentB w B g cap l) : BytesAt w (some ⟨g, 0, none⟩) l ∧ l.length + 1 ≤ cap ∧ w.cell? ⟨g, l.length, none⟩ = some (.int .u8 167) := by
  obtain ⟨hl, hb⟩ := OwnB.bytes h
  have hs := hb.sub 0 l.length
  rw [List.drop_zero, List.take_left] at hs
  have hc := (OwnB.cellAt h l.length (by simp)).1
  refine ⟨hs, ?_, by rw [hc]; simp⟩
  obtain ⟨a, c, e, h1, -, -⟩ := OwnB.shape h
  injection e with e1 e2 e3
  subst e3
  simpa using h1

theorem LentB.mod {F : Nat → Prop} {w w' : World} {B g cap : Nat} {l : List UInt8} (h : LentB w B g cap l) (hm : Mod F w w') (hF : ¬ F g) : LentB w' B g cap l :=
  OwnB.mod h hm (fun k hk => by simp [Value.ownBlock] at hk; rw [← hk]; exact hF)

theorem fold_push (l : List UInt8) : ∀ s : ByteArray, (l.map fun c => ((c.toNat : Nat) : Int)).foldl (fun r n => r.push (UInt8.ofNat n.toNat)) s = ⟨(s.data.toList ++ l).toArray⟩ := by
  induction l with
  | nil => intro s; simp
  | cons c r ih =>
    intro s
    simp only [List.map_cons, List.foldl_cons, ih]
    simp

/-- string(b) -/
theorem run_str {w : World} {a : Option Addr} {l : List UInt8} (h : BytesAt w a l) (n cap : Nat) (hn : l.length = n) : (convert 22 9 (.slice a n cap)).run Try.prog w = .ok (.string ⟨l.toArray⟩) w := by
  subst hn
  rw [run_convert_bytes_string (P := Try.prog) w 22 9 5 a _ cap Try.underlying22 Try.underlying5 Try.underlying9]
  by_cases hl : l = []
  · subst hl
    cases a with
    | none => rfl
    | some x => rfl
  · obtain ⟨b, off, rfl, hc⟩ := h hl
    have h1 := run_loadCells_list (P := Try.prog) w ⟨b, off, none⟩ (l.map byteV) (fun j v hv => by
      rw [Addr.add_mid]
      rw [List.getElem?_map] at hv
      cases hj : l[j]? with
      | none => rw [hj] at hv; simp at hv
      | some c =>
        rw [hj] at hv
        obtain ⟨hlt, rfl⟩ := List.getElem?_eq_some_iff.1 hj
        rw [hc j hlt]
        simpa using hv)
    rw [List.length_map] at h1
    rw [run_bytesToString (P := Try.prog) w ⟨b, off, none⟩ l.length cap (l.map fun c => ((c.toNat : Nat) : Int)) (by rw [h1]; simp [Function.comp_def])]
    rw [fold_push]
    simp

set_option maxRecDepth 100000 in
theorem kept_any {w : World} {B g c : Nat} (l : List UInt8) (h : LentB w B g c l) (a : Option Addr) (cap : Nat) (hb : BytesAt w a l) (hm : l.length ≤ 140737488351232) (_ha : a = none → cap = 0) :
    Calls Try.prog 48 #[.slice (some ⟨g, 0, none⟩) l.length c, .slice a l.length cap] w fun e w' => e = .returned (.bool true) ∧ w = w' := by
  obtain ⟨h1, h2, h3⟩ := h.bytes
  have h2' : (l.length : Int) + 1 ≤ (c : Int) := by omega
  have s1 := run_str h1 l.length c rfl
  have s2 := run_str hb l.length cap rfl
  go_enter Try.func48, Try.ntmps48
  go_wp2
  go_ret
  exact ⟨rfl, rfl⟩

theorem OwnB.front {w : World} {B g n cap : Nat} {l r : List UInt8} (h : OwnB w B (.slice (some ⟨g, 0, none⟩) n cap) (l ++ r)) : OwnB w B (.slice (some ⟨g, 0, none⟩) l.length cap) l := by
  rcases h.2 with ⟨e, _⟩ | ⟨g', cap', cur, e, h2, h3, h4, h5, h6, h7⟩
  · cases e
  · injection e with e1 e2 e3
    subst e3
    injection e1 with e1
    injection e1 with e1
    subst e1
    refine ⟨by simp, .inr ⟨g, cap, cur, rfl, h2, h3, by simp at h4; omega, h5, h6, ?_⟩⟩
    have := congrArg (List.take (l.length * 1)) h7
    rw [List.take_take, List.map_append, List.take_left' (by simp)] at this
    rw [← this]
    congr 1
    simp

section
variable {w : World} {ops : Array Oper} {rest : List Oper} {o : Oper} {a : Act} {Q : Exit → Act → World → Prop}
/-- append of one byte, and where the new slice lies -/
theorem appB1_at (hgd : o.guard = none) (s x : Operand) (ho : o.op = .call { callee := .builtin .append, args := #[s, x], argTypes := #[22, 22] })
    (B : Nat) (v : Value) (l : List UInt8) (hs : a.eval s = v) (hown : OwnB w B v l)
    (ad : Addr) (c : Nat) (r : UInt8) (hx : a.eval x = .slice (some ad) 1 c) (hr : BytesAt w (some ad) [r])
    (h47 : l.length + 1 ≤ 140737488355328) (hB : B ≤ w.heap.size)
    (h : ∀ v' w', OwnB w' B v' (l ++ [r]) → Mod (fun k => some k = v.ownBlock) w w' → (v'.ownBlock = v.ownBlock ∨ v'.ownBlock = some w.heap.size) → wpList Try.prog ops Q rest (a.put o.dst v') w') :
    wpList Try.prog ops Q (o :: rest) a w := by
  obtain ⟨i, hi, hz, hs1, hb1⟩ := info_parts info5
  obtain ⟨ad', e, hnews⟩ := bytesAt_cells hr (by simp)
  cases e
  refine wpList_append_own_at w hgd s x 22 ho B 5 i _ 1 1 Try.underlying22 hi hz hs1 hb1 rfl (by decide) v l.length (l.map byteV) hs hown ad 1 c ([r].map byteV) hx (by simp) hnews (bytes_oneCell [r])
    (by unfold maxLen; omega) (by omega) hB ?_
  intro v' w' h1 h2 _ h3
  refine h v' w' ?_ (Mod.grown h2) h3
  unfold OwnB
  rw [List.length_append, List.map_append]
  exact h1
end

theorem own_last {w : World} {B n : Nat} {v : Value} {l : List UInt8} {r : UInt8} (h : OwnB w B v (l ++ [r])) (hn : l.length = n) :
    ∃ g c, v = .slice (some ⟨g, 0, none⟩) (n + 1) c ∧ w.cell? ⟨g, n, none⟩ = some (byteV r) ∧ w.frozen? ⟨g, n, none⟩ = false := by
  subst hn
  obtain ⟨g, c, cur, rfl, -, -, -, -, -, -⟩ := h.row (by simp)
  obtain ⟨x0, x1⟩ := h.cellAt l.length (by simp)
  refine ⟨g, c, by simp, ?_, x1⟩
  rw [x0]; simp

set_option maxRecDepth 100000 in
theorem spoil_any {w : World} {B n : Nat} {a : Option Addr} {cap : Nat} {l : List UInt8} (h : OwnB w B (.slice a n cap) l) (hB : B ≤ w.heap.size) (hm : l.length ≤ 140737488351232) :
    Calls Try.prog 49 #[.slice a n cap] w fun e w' => e = .returned (.tuple #[]) ∧ Mod (fun k => some k = (Value.slice a n cap).ownBlock) w w' := by
  obtain ⟨hn, -⟩ := OwnB.bytes h
  subst hn
  go_enter Try.func49, Try.ntmps49
  go_wp2_with fail
  go_loopw [2] (fun v2 wr => ∃ (k : Nat) (l' : List UInt8), k ≤ l.length ∧ v2 = .int .i64 (k : Int) ∧ l'.length = l.length ∧ OwnB wr B (.slice a l.length cap) l' ∧ Mod (fun k => some k = (Value.slice a l.length cap).ownBlock) w wr) (fun v2 _ => l.length - (intOf v2).toNat)
  case atStart => exact ⟨0, l, Nat.zero_le _, rfl, rfl, h, Mod.refl _ _⟩
  case round =>
    obtain ⟨k, l', hk, rfl, hl', ho, hmr⟩ := hrel
    by_cases hlt : k < l.length
    · obtain ⟨g, cap', cur, e, -⟩ := OwnB.row ho (by intro e; rw [e] at hl'; simp at hl'; omega)
      injection e with e1 e2 e3
      subst e1
      obtain ⟨c0, x0, x1⟩ : ∃ c0, wr.cell? ⟨g, k, none⟩ = some (byteV c0) ∧ wr.frozen? ⟨g, k, none⟩ = false := ⟨_, ho.cellAt k (by omega)⟩
      have hlt' : (k : Int) < (l.length : Int) := by omega
      clear e2 e3
      have HL := Lib.hid hl'
      clear hl'
      go_wp2
      go_roundw
      case rel =>
        refine ⟨k + 1, l'.set k 90, by omega, by go_num, by simpa using HL.out, ho.store k 90, hmr.trans (Mod.setCell (F := fun k => some k = (Value.slice (some ⟨g, 0, none⟩) l.length cap).ownBlock) _ _ _ rfl) (fun _ _ e => e)⟩
      case measure => simp [intOf]; omega
    · obtain rfl : k = l.length := by omega
      have HL := Lib.hid hl'
      clear hl'
      go_wp2_with (first
        | (at_builtin; refine appB1_at rfl _ _ rfl B (.slice a l.length cap) l' rfl (by exact ho.mod (Mod.alloc (fun _ => False) _ _) (fun _ _ => id)) _ _ 91 rfl (by exact bytesAt_new' rfl rfl) (by rw [HL.out]; omega) (by have := hmr.size; simp; omega) ?_; intro v3 w3 ho3 hm3 hp3; obtain ⟨g3, c3, rfl, x0, x1⟩ := own_last ho3 HL.out))
      go_end0
      refine ⟨rfl, ?_⟩
      have hma := (hmr.trans (Mod.alloc (fun k => some k = (Value.slice a l.length cap).ownBlock) wr (.cells #[.int .u8 91] 5)) (fun _ _ e => e)).trans hm3 (fun _ _ e => e)
      refine hma.trans (Mod.setCell (F := fun k => k = g3) _ _ _ rfl) ?_
      rintro i hi rfl
      rcases hp3 with e | e
      · exact e
      · exfalso
        simp [Value.ownBlock] at e
        have := hmr.size
        omega

theorem Turned.pre {w W w' : World} {B p : Nat} {F : Nat → Prop} {D' : Dsk} (m : Mod (fun _ => False) w W) (ht : Turned W B p F D' w') : Turned w B p F D' w' := by
  obtain ⟨m1, F', h, hF⟩ := ht
  refine ⟨(m.mono (fun _ _ e => e.elim)).trans m1 (fun _ _ e => e), F', h, fun k hk => ?_⟩
  rcases hF k hk with e | e
  · exact .inl e
  · exact .inr (Nat.le_trans m.size e)
theorem DiskAt.still {w w' : World} {B p : Nat} {F : Nat → Prop} {D : Dsk} (h : DiskAt w B p D F) (m : Mod (fun _ => False) w w') : Turned w B p F D w' :=
  ⟨m.mono (fun _ _ e => e.elim), F, h.mod m (fun _ _ => id), fun _ hk => .inl hk⟩

/-- an operation of a script, as it is handed over -/
structure OpV where
  kind : Int
  n : Int
  b : List UInt8
  l : List Int

/-- what a script's operation does to a disk -/
def Dsk.doCode (D : Dsk) (o : OpV) : Int :=
  if o.kind = 0 ∨ o.kind = 1 then D.why o.n o.b else if o.kind = 2 then D.whySync else 0
def Dsk.step (D : Dsk) (o : OpV) : Dsk :=
  if o.kind = 0 ∨ o.kind = 1 then D.write o.n o.b else if o.kind = 2 then D.sync else if o.kind = 3 then { D with bad := true }
  else if o.kind = 4 then { D with full := o.n.tmod 2 != 0 } else if o.kind = 5 then D.crash o.l else D

/-- the value of an operation -/
structure OpAt (w : World) (v : Value) (o : OpV) : Prop where
  shape : ∃ (ab : Option Addr) (cb : Nat) (al : Option Addr) (cl : Nat), v = .agg #[.int .i64 o.kind, .int .i64 o.n, .slice ab o.b.length cb, .slice al o.l.length cl] ∧
    BytesAt w ab o.b ∧ (ab = none → cb = 0) ∧ IntsAt w al o.l ∧ o.b.length ≤ 140737488351232 ∧ o.l.length ≤ 140737488351232

set_option maxRecDepth 100000 in
theorem do_any {w : World} {B p : Nat} {D : Dsk} {F : Nat → Prop} (h : DiskAt w B p D F) (hB : B ≤ w.heap.size) (hlim : D.l.length + 1 ≤ 1048576) (o : OpV) (ab : Option Addr) (cb : Nat) (al : Option Addr) (cl : Nat)
    (hb : BytesAt w ab o.b) (hab : ab = none → cb = 0) (hl : IntsAt w al o.l) (hm : o.b.length ≤ 140737488351232) (hml : o.l.length ≤ 140737488351232)
    (hbB : ∀ x, ab = some x → o.b ≠ [] → x.block < B) (hlB : ∀ x, al = some x → o.l ≠ [] → x.block < B) :
    Calls Try.prog 32 #[.pointer (some ⟨p, 0, none⟩), .agg #[.int .i64 o.kind, .int .i64 o.n, .slice ab o.b.length cb, .slice al o.l.length cl]] w fun e w' =>
      e = .returned (.int .i64 (D.doCode o)) ∧ Turned w B p F (D.step o) w' := by
  obtain ⟨kind, n, b, l⟩ := o
  simp only at *
  have hF := h.lt
  have hpF : F p := by obtain ⟨vs, vn, vl, h, rfl⟩ := h; exact foot_p
  obtain ⟨W, hW⟩ : ∃ W, W = w.alloc (.cells #[.int .i64 kind, .int .i64 n, .slice ab b.length cb, .slice al l.length cl] 45) := ⟨_, rfl⟩
  have mW : Mod (fun _ => False) w W := by rw [hW]; exact Mod.alloc _ _ _
  have hWs : W.heap.size = w.heap.size + 1 := by rw [hW]; simp
  have hbox : W.heap[w.heap.size]? = some (.cells #[.int .i64 kind, .int .i64 n, .slice ab b.length cb, .slice al l.length cl] 45 (0, 0)) := by rw [hW]; exact heap_alloc_new w _
  have hdW := h.mod mW (fun _ _ => id)
  by_cases h01 : kind = 0 ∨ kind = 1
  · have e1 : D.doCode ⟨kind, n, b, l⟩ = D.why n b := by simp [Dsk.doCode, h01]
    have e2 : D.step ⟨kind, n, b, l⟩ = D.write n b := by simp [Dsk.step, h01]
    rw [e1, e2]
    have hbW := hb.mod mW (fun _ _ _ => id)
    have lent := lent_any ab b cb W B (by omega) hm hab hbW
    rcases h01 with rfl | rfl
    all_goals
      go_enter Try.func32, Try.ntmps32
      go_wp2_with fail
      rw [← hW]
      refine lent.mono ?_
      rintro e w2 ⟨g, c, rfl, hL2, m2, hg2⟩
      have hbox2 := m2.obj hbox id
      have hd2 := hdW.mod m2 (fun _ _ => id)
      have b1 : w2.cell? ⟨w.heap.size, 1, none⟩ = some (.int .i64 n) := by rw [cell_of_row _ _ 1 _ 45 (0, 0) hbox2]; rfl
      go_wp2_with fail
      refine (hd2.write hlim n (some ⟨g, 0, none⟩) b _ c rfl hL2.bytes.1 (by omega)).mono ?_
      rintro e w3 ⟨rfl, m3, F', hd3, hF'⟩
      have hgF : ¬ F g := fun e => by have := (hF g e).2; omega
      have hxF : ¬ F w.heap.size := fun e => by have := (hF _ e).2; omega
      have hbox3 := m3.obj hbox2 hxF
      have hL3 := hL2.mod m3 hgF
      have hb3 := (hbW.mod m2 (fun _ _ _ => id)).mod m3 (fun x hx hne e => by have := (hF _ e).1; have := hbB x hx hne; omega)
      have b2 : w3.cell? ⟨w.heap.size, 2, none⟩ = some (.slice ab b.length cb) := by rw [cell_of_row _ _ 2 _ 45 (0, 0) hbox3]; rfl
      go_wp2_with fail
      refine (kept_any b hL3 ab cb hb3 hm hab).mono ?_
      rintro e w' ⟨rfl, rfl⟩
      go_wp2_with fail
      have hsz := m2.size
      have hsz3 := m3.size
      refine (spoil_any (OwnB.front hL3) (by omega) hm).mono ?_
      rintro e w4 ⟨rfl, m4⟩
      go_wp2
      go_ret
      have hgs : g < w2.heap.size := (World.ownsRow.lt hL2 g rfl).2
      refine ⟨rfl, ?_, F', hd3.mod m4 ?_, ?_⟩
      · have a1 : Mod F w w3 := ((mW.mono (fun _ _ e => e.elim)).trans m2 (fun _ _ e => e.elim)).trans m3 (fun _ _ e => e)
        refine a1.trans m4 (fun i hi e => ?_)
        simp [Value.ownBlock] at e
        omega
      · intro k hk e
        simp [Value.ownBlock] at e
        subst e
        rcases hF' k hk with e | e
        · exact hgF e
        · omega
      · intro k hk
        rcases hF' k hk with e | e
        · exact .inl e
        · right; omega
  by_cases h2 : kind = 2
  · subst h2
    have e1 : D.doCode ⟨2, n, b, l⟩ = D.whySync := by simp [Dsk.doCode]
    have e2 : D.step ⟨2, n, b, l⟩ = D.sync := by simp [Dsk.step]
    rw [e1, e2]
    go_enter Try.func32, Try.ntmps32
    go_wp2_with fail
    rw [← hW]
    refine hdW.sync.mono ?_
    rintro e w2 ⟨rfl, ht⟩
    go_wp2
    go_ret
    exact ⟨rfl, ht.pre mW⟩
  by_cases h3 : kind = 3
  · subst h3
    have e1 : D.doCode ⟨3, n, b, l⟩ = 0 := by simp [Dsk.doCode]
    have e2 : D.step ⟨3, n, b, l⟩ = { D with bad := true } := by simp [Dsk.step]
    rw [e1, e2]
    go_enter Try.func32, Try.ntmps32
    go_wp2_with fail
    rw [← hW]
    refine hdW.fail.mono ?_
    rintro e w2 ⟨rfl, ht⟩
    go_wp2
    go_ret
    exact ⟨rfl, ht.pre mW⟩
  by_cases h4 : kind = 4
  · subst h4
    have e1 : D.doCode ⟨4, n, b, l⟩ = 0 := by simp [Dsk.doCode]
    have e2 : D.step ⟨4, n, b, l⟩ = { D with full := n.tmod 2 != 0 } := by simp [Dsk.step]
    rw [e1, e2]
    go_enter Try.func32, Try.ntmps32
    go_wp2_with fail
    rw [← hW]
    refine (hdW.fullTo _).mono ?_
    rintro e w2 ⟨rfl, ht⟩
    go_wp2
    go_ret
    refine ⟨rfl, ?_⟩
    exact ht.pre mW
  by_cases h5 : kind = 5
  · subst h5
    have e1 : D.doCode ⟨5, n, b, l⟩ = 0 := by simp [Dsk.doCode]
    have e2 : D.step ⟨5, n, b, l⟩ = D.crash l := by simp [Dsk.step]
    rw [e1, e2]
    go_enter Try.func32, Try.ntmps32
    go_wp2_with fail
    rw [← hW]
    refine (hdW.crash al l _ cl rfl (hl.mod mW (fun _ _ _ => id)) (fun x hx hne e => by have := (hF _ e).1; have := hlB x hx hne; omega) (by omega)).mono ?_
    rintro e w2 ⟨rfl, ht⟩
    go_wp2
    go_ret
    exact ⟨rfl, ht.pre mW⟩
  · have h0 : kind ≠ 0 := fun e => h01 (.inl e)
    have h1 : kind ≠ 1 := fun e => h01 (.inr e)
    have e1 : D.doCode ⟨kind, n, b, l⟩ = 0 := by simp [Dsk.doCode, h0, h1, h2]
    have e2 : D.step ⟨kind, n, b, l⟩ = D := by simp [Dsk.step, h0, h1, h2, h3, h4, h5]
    rw [e1, e2]
    go_enter Try.func32, Try.ntmps32
    go_wp2
    rw [← hW]
    go_ret
    exact ⟨rfl, h.still mW⟩
end Go.Proofs.Ytdinnkacilgmmaa
