/- What RowPagerPlays needs, part 3. -/
import Derived.Test.YtdinnkacilgmmaaPlB
import Derived.Deep.DeepCutAuto
import Derived.Deep.CutBlock
namespace Go.Proofs.Ytdinnkacilgmmaa
open Go.RowKit

/-- a thing in memory: what it is, with the blocks that it lies in -/
structure Thg (B : Nat) where
  at_ : World → (Nat → Prop) → Prop
  lt : ∀ {w F}, at_ w F → ∀ k, F k → B ≤ k ∧ k < w.heap.size
  mod : ∀ {G : Nat → Prop} {w w' F}, at_ w F → Mod G w w' → (∀ k, F k → ¬ G k) → at_ w' F

/-- things that lie apart, all from the mark B on; below the mark all is as it was in w0 -/
structure Apart (w0 : World) (B : Nat) (Ts : List (Thg B)) (w : World) : Prop where
  bel : Below B w0 w
  le : B ≤ w.heap.size
  own : ∃ Fs : Nat → Nat → Prop, (∀ (i : Nat) (T : Thg B), Ts[i]? = some T → T.at_ w (Fs i)) ∧ (∀ i j, i < Ts.length → j < Ts.length → i ≠ j → ∀ k, Fs i k → ¬ Fs j k)

section
variable {w0 w w' : World} {B : Nat} {Ts : List (Thg B)}

theorem Apart.nil (hB : Below B w0 w) (hle : B ≤ w.heap.size) : Apart w0 B [] w :=
  ⟨hB, hle, fun _ _ => False, fun i T h => by simp at h, fun i j h => by simp at h⟩

/-- one of them -/
theorem Apart.get (h : Apart w0 B Ts w) (i : Nat) {T : Thg B} (hi : Ts[i]? = some T) : ∃ F, T.at_ w F := by
  obtain ⟨Fs, h1, -⟩ := h.own
  exact ⟨_, h1 i T hi⟩

/-- what a call on one of them leaves -/
def Left (T' : Thg B) (F : Nat → Prop) (w w' : World) : Prop := Mod F w w' ∧ ∃ F', T'.at_ w' F' ∧ ∀ k, F' k → F k ∨ w.heap.size ≤ k

theorem Apart.turn (h : Apart w0 B Ts w) (i : Nat) {T : Thg B} (hi : Ts[i]? = some T) :
    ∃ F, T.at_ w F ∧ ∀ (T' : Thg B) w', Left T' F w w' → Apart w0 B (Ts.set i T') w' := by
  obtain ⟨Fs, h1, h2⟩ := h.own
  have hT := h1 i T hi
  have hil : i < Ts.length := (List.getElem?_eq_some_iff.1 hi).1
  refine ⟨Fs i, hT, fun T' w' ⟨hm, F', h3, h4⟩ => ⟨h.bel.trans (hm.below (fun k hk => (T.lt hT k hk).1) h.le), Nat.le_trans h.le hm.size, fun j => if j = i then F' else Fs j, ?_, ?_⟩⟩
  · intro j S hj
    by_cases e : j = i
    · subst e
      simp only [if_true]
      rw [List.getElem?_set_self hil] at hj
      cases hj
      exact h3
    · simp only [if_neg e]
      rw [List.getElem?_set_ne (Ne.symm e)] at hj
      have hjl : j < Ts.length := (List.getElem?_eq_some_iff.1 hj).1
      exact S.mod (h1 j S hj) hm (h2 j i hjl hil e)
  · intro a b ha hb hab k hk hk'
    rw [List.length_set] at ha hb
    have lt : ∀ j, j < Ts.length → Fs j k → k < w.heap.size := fun j hj hk => ((Ts[j]).lt (h1 j _ (List.getElem?_eq_getElem hj)) k hk).2
    by_cases ea : a = i
    · subst ea
      rw [if_neg (Ne.symm hab)] at hk'
      rw [if_pos rfl] at hk
      rcases h4 k hk with e | e
      · exact h2 _ _ ha hb hab k e hk'
      · have := lt b hb hk'; omega
    · rw [if_neg ea] at hk
      by_cases eb : b = i
      · subst eb
        rw [if_pos rfl] at hk'
        rcases h4 k hk' with e | e
        · exact h2 _ _ ha hb hab k hk e
        · have := lt a ha hk; omega
      · rw [if_neg eb] at hk'
        exact h2 _ _ ha hb hab k hk hk'

/-- nothing of theirs has turned -/
theorem Apart.still (h : Apart w0 B Ts w) (hm : Mod (fun _ => False) w w') : Apart w0 B Ts w' := by
  obtain ⟨Fs, h1, h2⟩ := h.own
  exact ⟨h.bel.trans (hm.below (fun _ e => e.elim) h.le), Nat.le_trans h.le hm.size, Fs, fun i T hi => T.mod (h1 i T hi) hm (fun _ _ => id), h2⟩

/-- a new thing beside them -/
theorem Apart.more (h : Apart w0 B Ts w) (T : Thg B) (hm : Mod (fun _ => False) w w') {F : Nat → Prop} (hT : T.at_ w' F) (hF : ∀ k, F k → w.heap.size ≤ k) : Apart w0 B (Ts ++ [T]) w' := by
  obtain ⟨Fs, h1, h2⟩ := h.own
  have lt : ∀ j k, j < Ts.length → Fs j k → k < w.heap.size := fun j k hj hk => ((Ts[j]).lt (h1 j _ (List.getElem?_eq_getElem hj)) k hk).2
  refine ⟨h.bel.trans (hm.below (fun _ e => e.elim) h.le), Nat.le_trans h.le hm.size, fun i => if i < Ts.length then Fs i else F, ?_, ?_⟩
  · intro i S hi
    by_cases e : i < Ts.length
    · simp only [if_pos e]
      rw [List.getElem?_append_left e] at hi
      exact S.mod (h1 i S hi) hm (fun _ _ => id)
    · simp only [if_neg e]
      have hl := (List.getElem?_eq_some_iff.1 hi).1
      simp at hl
      obtain rfl : i = Ts.length := by omega
      simp at hi
      subst hi
      exact hT
  · intro a b ha hb hab k hk hk'
    simp only [List.length_append, List.length_cons, List.length_nil] at ha hb
    by_cases ea : a < Ts.length
    · rw [if_pos ea] at hk
      by_cases eb : b < Ts.length
      · rw [if_pos eb] at hk'
        exact h2 a b ea eb hab k hk hk'
      · rw [if_neg eb] at hk'
        have := lt a k ea hk
        have := hF k hk'
        omega
    · rw [if_neg ea] at hk
      by_cases eb : b < Ts.length
      · rw [if_pos eb] at hk'
        have := lt b k eb hk'
        have := hF k hk
        omega
      · omega

/-- the first ones of them -/
theorem Apart.take (h : Apart w0 B Ts w) (n : Nat) : Apart w0 B (Ts.take n) w := by
  obtain ⟨Fs, h1, h2⟩ := h.own
  refine ⟨h.bel, h.le, Fs, fun i T hi => h1 i T ?_, fun i j hi hj => h2 i j ?_ ?_⟩
  · rw [List.getElem?_take] at hi
    split at hi
    · exact hi
    · cases hi
  · simp at hi; omega
  · simp at hj; omega

/-- some of them, by their places -/
theorem Apart.pick (h : Apart w0 B Ts w) (Us : List (Thg B)) (f : Nat → Nat) (hf : ∀ i, i < Us.length → Us[i]? = Ts[f i]?) (hinj : ∀ i j, i < Us.length → j < Us.length → i ≠ j → f i ≠ f j) : Apart w0 B Us w := by
  obtain ⟨Fs, h1, h2⟩ := h.own
  have hlt : ∀ i, i < Us.length → f i < Ts.length := fun i hi => by
    have := hf i hi
    rw [List.getElem?_eq_getElem hi] at this
    exact (List.getElem?_eq_some_iff.1 this.symm).1
  refine ⟨h.bel, h.le, fun i => Fs (f i), fun i T hi => ?_, fun i j hi hj hij => h2 _ _ (hlt i hi) (hlt j hj) (hinj i j hi hj hij)⟩
  have hil := (List.getElem?_eq_some_iff.1 hi).1
  exact h1 _ T (by rw [← hf i hil]; exact hi)

/-- behind a call that made new memory alone -/
theorem Apart.next (h : Apart w0 B Ts w) (hm : Below w.heap.size w w') : Apart w0 B Ts w' := h.still (Mod.fresh hm _)
theorem Apart.alloc (h : Apart w0 B Ts w) (o : Obj) : Apart w0 B Ts (w.alloc o) := h.still (Mod.alloc _ _ _)
theorem Apart.drew (h : Apart w0 B Ts w) : Apart w0 B Ts w.drew := h.still (Mod.drew _ _)
end

/-! ### disks and bytes -/
def DiskT (B p : Nat) (D : Dsk) : Thg B := ⟨fun w F => DiskAt w B p D F, fun h => h.lt, fun h => h.mod⟩
def BytesT (B : Nat) (v : Value) (l : List UInt8) : Thg B :=
  ⟨fun w F => OwnB w B v l ∧ F = fun k => v.ownBlock = some k, fun {w F} h k hk => by obtain ⟨h, rfl⟩ := h; exact World.ownsRow.lt h k hk,
    fun {G w w' F} h hm hF => by obtain ⟨h, rfl⟩ := h; exact ⟨h.mod hm hF, rfl⟩⟩

section
variable {w0 w w' : World} {B p : Nat} {Ts : List (Thg B)} {D : Dsk}

theorem Apart.born (h : Apart w0 B Ts w) {v : Value} {D : Dsk} {w' : World} (hb : Born w B v D w') : ∃ p, v = .pointer (some ⟨p, 0, none⟩) ∧ Apart w0 B (Ts ++ [DiskT B p D]) w' := by
  obtain ⟨p, F, rfl, hd, hm, hF⟩ := hb
  exact ⟨p, rfl, h.more (DiskT B p D) hm hd hF⟩
theorem Apart.made (h : Apart w0 B Ts w) {v : Value} {l : List UInt8} {C : Nat} (hC : B ≤ C) (ho : OwnB w' C v l) (hm : Mod (fun _ => False) w w') (hn : ∀ k, v.ownBlock = some k → w.heap.size ≤ k) : Apart w0 B (Ts ++ [BytesT B v l]) w' :=
  h.more (BytesT B v l) hm ⟨ho.weaken hC, rfl⟩ hn

theorem Apart.bytes (h : Apart w0 B Ts w) (i : Nat) {v : Value} {l : List UInt8} (hi : Ts[i]? = some (BytesT B v l)) : OwnB w B v l := by
  obtain ⟨F, h, -⟩ := h.get i hi
  exact h
theorem Apart.disk (h : Apart w0 B Ts w) (i : Nat) {p : Nat} {D : Dsk} (hi : Ts[i]? = some (DiskT B p D)) : ∃ F, DiskAt w B p D F := h.get i hi

theorem Apart.write (h : Apart w0 B Ts w) (i : Nat) (hi : Ts[i]? = some (DiskT B p D)) (hlim : D.l.length + 1 ≤ 1048576) (n : Int) (a : Option Addr) (b : List UInt8) (m cap : Nat) (hm' : b.length = m) (hb : BytesAt w a b) (hm : b.length ≤ 140737488355328) :
    Calls Try.prog 40 #[.pointer (some ⟨p, 0, none⟩), .int .i64 n, .slice a m cap] w fun e w' => e = .returned (.int .i64 (D.why n b)) ∧ Apart w0 B (Ts.set i (DiskT B p (D.write n b))) w' := by
  obtain ⟨F, hd, hup⟩ := h.turn i hi
  exact (DiskAt.write hd hlim n a b m cap hm' hb hm).mono fun e w' ⟨he, ht⟩ => ⟨he, hup _ _ ht⟩
theorem Apart.sync (h : Apart w0 B Ts w) (i : Nat) (hi : Ts[i]? = some (DiskT B p D)) :
    Calls Try.prog 43 #[.pointer (some ⟨p, 0, none⟩)] w fun e w' => e = .returned (.int .i64 D.whySync) ∧ Apart w0 B (Ts.set i (DiskT B p D.sync)) w' := by
  obtain ⟨F, hd, hup⟩ := h.turn i hi
  exact (DiskAt.sync hd).mono fun e w' ⟨he, ht⟩ => ⟨he, hup _ _ ht⟩
theorem Apart.fail (h : Apart w0 B Ts w) (i : Nat) (hi : Ts[i]? = some (DiskT B p D)) :
    Calls Try.prog 42 #[.pointer (some ⟨p, 0, none⟩)] w fun e w' => e = .returned (.int .i64 0) ∧ Apart w0 B (Ts.set i (DiskT B p { D with bad := true })) w' := by
  obtain ⟨F, hd, hup⟩ := h.turn i hi
  exact (DiskAt.fail hd).mono fun e w' ⟨he, ht⟩ => ⟨he, hup _ _ ht⟩
theorem Apart.fullTo (h : Apart w0 B Ts w) (i : Nat) (hi : Ts[i]? = some (DiskT B p D)) (b : Bool) :
    Calls Try.prog 41 #[.pointer (some ⟨p, 0, none⟩), .bool b] w fun e w' => e = .returned (.int .i64 0) ∧ Apart w0 B (Ts.set i (DiskT B p { D with full := b })) w' := by
  obtain ⟨F, hd, hup⟩ := h.turn i hi
  exact (DiskAt.fullTo hd b).mono fun e w' ⟨he, ht⟩ => ⟨he, hup _ _ ht⟩
theorem Apart.crash0 (h : Apart w0 B Ts w) (i : Nat) (hi : Ts[i]? = some (DiskT B p D)) (a : Option Addr) (ks : List Int) (m cap : Nat) (hm' : ks.length = m) (hk : IntsAt w a ks) (hkf : ∀ x, a = some x → ks ≠ [] → ∀ F, DiskAt w B p D F → ¬ F x.block) (hm : ks.length ≤ 140737488355328) :
    Calls Try.prog 33 #[.pointer (some ⟨p, 0, none⟩), .slice a m cap] w fun e w' => e = .returned (.int .i64 0) ∧ Apart w0 B (Ts.set i (DiskT B p (D.crash ks))) w' := by
  obtain ⟨F, hd, hup⟩ := h.turn i hi
  exact (DiskAt.crash hd a ks m cap hm' hk (fun x hx hne => hkf x hx hne F hd) hm).mono fun e w' ⟨he, ht⟩ => ⟨he, hup _ _ ht⟩
theorem Apart.crashNil (h : Apart w0 B Ts w) (i : Nat) (hi : Ts[i]? = some (DiskT B p D)) :
    Calls Try.prog 33 #[.pointer (some ⟨p, 0, none⟩), .slice none 0 0] w fun e w' => e = .returned (.int .i64 0) ∧ Apart w0 B (Ts.set i (DiskT B p (D.crash []))) w' :=
  h.crash0 i hi none [] 0 0 rfl (fun h => absurd rfl h) (fun x hx => by cases hx) (by decide)
/-- Crash with numbers that lie below the mark -/
theorem Apart.crash (h : Apart w0 B Ts w) (i : Nat) (hi : Ts[i]? = some (DiskT B p D)) (a : Option Addr) (ks : List Int) (m cap : Nat) (hm' : ks.length = m) (hk : IntsAt w a ks) (hkB : ∀ x, a = some x → ks ≠ [] → x.block < B) (hm : ks.length ≤ 140737488355328) :
    Calls Try.prog 33 #[.pointer (some ⟨p, 0, none⟩), .slice a m cap] w fun e w' => e = .returned (.int .i64 0) ∧ Apart w0 B (Ts.set i (DiskT B p (D.crash ks))) w' :=
  h.crash0 i hi a ks m cap hm' hk (fun x hx hne F hd e => by have := (hd.lt _ e).1; have := hkB x hx hne; omega) hm
theorem Apart.read (h : Apart w0 B Ts w) (i : Nat) (hi : Ts[i]? = some (DiskT B p D)) (n : Int) : Calls Try.prog 37 #[.pointer (some ⟨p, 0, none⟩), .int .i64 n] w fun e w' =>
    ∃ v, e = .returned (.tuple #[v, .int .i64 (D.wrong n)]) ∧ Apart w0 B (Ts ++ [BytesT B v (if D.wrong n = 0 then sector D.now n.toNat else [])]) w' := by
  obtain ⟨F, hd⟩ := h.disk i hi
  exact (DiskAt.read hd n B h.le).mono fun e w' ⟨v, he, ho, hm, hn⟩ => ⟨v, he, h.made (Nat.le_refl _) ho hm hn⟩
theorem Apart.image (h : Apart w0 B Ts w) (i : Nat) (hi : Ts[i]? = some (DiskT B p D)) : Calls Try.prog 34 #[.pointer (some ⟨p, 0, none⟩)] w fun e w' =>
    ∃ v, e = .returned v ∧ Apart w0 B (Ts ++ [BytesT B v D.safe]) w' := by
  obtain ⟨F, hd⟩ := h.disk i hi
  exact (DiskAt.image hd B h.le).mono fun e w' ⟨v, he, ho, hm, hn⟩ => ⟨v, he, h.made (Nat.le_refl _) ho hm hn⟩
theorem Apart.size (h : Apart w0 B Ts w) (i : Nat) (hi : Ts[i]? = some (DiskT B p D)) : Calls Try.prog 52 #[.pointer (some ⟨p, 0, none⟩)] w fun e w' => e = .returned (.int .i64 (D.N : Int)) ∧ w = w' := by
  obtain ⟨F, hd⟩ := h.disk i hi
  exact DiskAt.size hd
theorem Apart.dead (h : Apart w0 B Ts w) (i : Nat) (hi : Ts[i]? = some (DiskT B p D)) : Calls Try.prog 38 #[.pointer (some ⟨p, 0, none⟩)] w fun e w' => e = .returned (.bool D.gone) ∧ w = w' := by
  obtain ⟨F, hd⟩ := h.disk i hi
  exact DiskAt.dead hd
theorem Apart.newDisk (h : Apart w0 B Ts w) (n : Nat) (h1 : 1 ≤ n) (h2 : n ≤ 4096) :
    Calls Try.prog 31 #[.int .i64 (n : Int)] w fun e w' => ∃ p, e = .returned (.tuple #[.pointer (some ⟨p, 0, none⟩), .int .i64 0]) ∧ Apart w0 B (Ts ++ [DiskT B p (Dsk.of (List.replicate (n * 256) 0))]) w' := by
  refine (new_ok (w := w) (B := B) h.le n h1 h2).mono fun e w' ⟨v, he, hb⟩ => ?_
  obtain ⟨p, rfl, hs⟩ := h.born hb
  exact ⟨p, he, hs⟩
end
end Go.Proofs.Ytdinnkacilgmmaa
namespace Go.Proofs.Ytdinnkacilgmmaa
open Go.RowKit

/-! ### what a script's step keeps -/
theorem Dsk.wf.write_len {D : Dsk} (n : Int) (b : List UInt8) : (D.write n b).safe = D.safe ∧ (D.write n b).l.length ≤ D.l.length + 1 := by
  unfold Dsk.write; split
  · exact ⟨rfl, by simp⟩
  · exact ⟨rfl, by omega⟩
theorem Dsk.wf.sync_len {D : Dsk} (h : D.wf) : D.sync.safe.length = D.safe.length ∧ D.sync.l.length ≤ D.l.length + 1 := by
  unfold Dsk.sync; split
  · exact ⟨rfl, by omega⟩
  split
  · exact ⟨rfl, by simp⟩
  · exact ⟨h.now, by simp⟩
/-- the cells of an operation of a script, behind whatever the call has made -/
theorem op_here {W w : World} {b off j : Nat} {c0 c1 c2 c3 : Value} {o : OpV} (hb : Below W.heap.size W w) (h : OpIs W [c0, c1, c2, c3] o)
    (k0 : W.cell? ⟨b, off + j * 4, none⟩ = some c0) (k1 : W.cell? ⟨b, off + j * 4 + 1, none⟩ = some c1) (k2 : W.cell? ⟨b, off + j * 4 + 2, none⟩ = some c2) (k3 : W.cell? ⟨b, off + j * 4 + 3, none⟩ = some c3) :
    ∃ (ab : Option Addr) (cb : Nat) (al : Option Addr) (cl : Nat), w.cell? ⟨b, off + j * 4, none⟩ = some (.int .i64 o.kind) ∧ w.cell? ⟨b, off + j * 4 + 1, none⟩ = some (.int .i64 o.n) ∧
      w.cell? ⟨b, off + j * 4 + 2, none⟩ = some (.slice ab o.b.length cb) ∧ w.cell? ⟨b, off + j * 4 + 3, none⟩ = some (.slice al o.l.length cl) ∧
      BytesAt w ab o.b ∧ (ab = none → cb = 0) ∧ IntsAt w al o.l ∧ o.b.length ≤ 140737488351232 ∧ o.l.length ≤ 140737488351232 ∧ (∀ x, ab = some x → o.b ≠ [] → x.block < W.heap.size) ∧ (∀ x, al = some x → o.l ≠ [] → x.block < W.heap.size) := by
  obtain ⟨ab, cb, al, cl, e, h1, h2, h3, h4, h5⟩ := h.is
  simp only [List.cons.injEq, and_true] at e
  obtain ⟨rfl, rfl, rfl, rfl⟩ := e
  have hlt := World.block_lt_of_cell? _ _ k0
  have keep : ∀ t v, W.cell? ⟨b, t, none⟩ = some v → w.cell? ⟨b, t, none⟩ = some v := fun t v hv => (hb.cell (p := ⟨b, t, none⟩) hlt).trans hv
  have hl1 : ∀ x, ab = some x → o.b ≠ [] → x.block < W.heap.size := fun x hx hne => by subst hx; exact h1.lt hne
  have hl2 : ∀ x, al = some x → o.l ≠ [] → x.block < W.heap.size := fun x hx hne => by
    subst hx
    obtain ⟨b', off', e, hc⟩ := h3 hne
    cases e
    exact World.block_lt_of_cell? _ _ (hc 0 (List.length_pos_iff.2 hne))
  refine ⟨ab, cb, al, cl, keep _ _ k0, keep _ _ k1, keep _ _ k2, keep _ _ k3, h1.below hb hl1, h2, ?_, h4, h5, hl1, hl2⟩
  exact h3.mod (Mod.of_below hb) (fun x hx hne e => by have := hl2 x hx hne; omega)

/-- an operation of a script, behind whatever the call has made -/
theorem OpsAt.here {W w : World} {a : Option Addr} {l : List OpV} (ha : OpsAt W a l) (hb : Below W.heap.size W w) {k : Nat} (hlt : k < l.length) :
    ∃ b off, a = some ⟨b, off, none⟩ ∧ ∃ (ab : Option Addr) (cb : Nat) (al : Option Addr) (cl : Nat), w.cell? ⟨b, off + k * 4, none⟩ = some (.int .i64 l[k].kind) ∧ w.cell? ⟨b, off + k * 4 + 1, none⟩ = some (.int .i64 l[k].n) ∧
      w.cell? ⟨b, off + k * 4 + 2, none⟩ = some (.slice ab l[k].b.length cb) ∧ w.cell? ⟨b, off + k * 4 + 3, none⟩ = some (.slice al l[k].l.length cl) ∧
      BytesAt w ab l[k].b ∧ (ab = none → cb = 0) ∧ IntsAt w al l[k].l ∧ l[k].b.length ≤ 140737488351232 ∧ l[k].l.length ≤ 140737488351232 ∧ (∀ x, ab = some x → l[k].b ≠ [] → x.block < W.heap.size) ∧ (∀ x, al = some x → l[k].l ≠ [] → x.block < W.heap.size) := by
  obtain ⟨bb, off, rfl, hops⟩ := ha (by intro e; rw [e] at hlt; simp at hlt)
  obtain ⟨c0, c1, c2, c3, k0, k1, k2, k3, hop⟩ := hops k hlt
  exact ⟨bb, off, rfl, op_here hb hop k0 k1 k2 k3⟩
end Go.Proofs.Ytdinnkacilgmmaa
namespace Go.Proofs.Ytdinnkacilgmmaa
open Go.RowKit

theorem OwnC.made (w : World) (B : Nat) (hB : B ≤ w.heap.size) : OwnC (w.alloc (.cells #[] 132)) B (.slice (some ⟨w.heap.size, 0, none⟩) 0 0) [] := by
  have h := World.ownsRow_lit (w := w) (base := B) (e := 132) (size := chgSize) #[] 0 hB (by decide) (by simp)
  exact h

theorem OwnC.weaken {w : World} {B B' : Nat} {v : Value} {l} (h : OwnC w B' v l) (hB : B ≤ B') : OwnC w B v l := by
  refine ⟨h.1, ?_⟩
  rcases h.2 with hn | ⟨g, cap, cur, rfl, hb, rest⟩
  · exact .inl hn
  · exact .inr ⟨g, cap, cur, rfl, Nat.le_trans hB hb, rest⟩

set_option maxRecDepth 100000 in
/-- slices.Clone of writes -/
theorem clonec_any {w : World} {B : Nat} {v : Value} {l : List (Nat × List UInt8)} (h : OwnC w B v l) (h256 : ∀ x ∈ l, x.2.length = 256) (hlim : l.length ≤ 1048576) (C : Nat) (hC : C ≤ w.heap.size) :
    Calls Try.prog 88 #[v] w fun e w' => ∃ v', e = .returned v' ∧ OwnC w' C v' l ∧ Mod (fun _ => False) w w' ∧ (∀ k, v'.ownBlock = some k → w.heap.size ≤ k) := by
  have kn : ∀ (w : World) (a : Option Addr) (n c : Nat), (binOp .eql 127 (.slice a n c) (.slice none 0 0)).run Try.prog w = .ok (.bool a.isNone) w := fun w a n c => Lib.run_eql_slice_nil w 127 132 a n c 0 0 Try.underlying127
  rcases h.2 with ⟨rfl, h0⟩ | ⟨g, cap, cur, rfl, -⟩
  · have e := List.eq_nil_of_length_eq_zero h0
    subst e
    go_enter Try.func88, Try.ntmps88
    go_wp2
    go_ret
    exact ⟨_, rfl, OwnC.nil _ _, Mod.refl _ _, by simp [Value.ownBlock]⟩
  · have hcells : ∀ (j : Nat) u, (chgs l)[j]? = some u → (w.alloc (.cells #[] 132)).cell? ((⟨g, 0, none⟩ : Addr).add j) = some u := fun j u hu => by
      have hc := World.ownsRow.cells h (g := g) rfl j u hu
      rw [World.cell?_alloc_lt _ _ _ (World.block_lt_of_cell? _ _ hc)]
      exact hc
    have HC := Lib.hid hcells
    clear hcells
    go_enter Try.func88, Try.ntmps88
    go_wp2_with (first
      | (at_builtin; refine appC rfl _ _ rfl w.heap.size (.slice (some ⟨w.heap.size, 0, none⟩) 0 0) [] rfl (OwnC.made w _ (Nat.le_refl _)) ⟨g, 0, none⟩ _ _ l rfl rfl h256 HC.out (by simp; omega) (by simp) ?_; intro v1 w1 hown1 hmod1 _; rw [List.nil_append] at hown1))
    go_ret
    refine ⟨_, rfl, hown1.weaken hC, (Mod.alloc (fun _ => False) w _).trans hmod1 ?_, fun k hk => (World.ownsRow.lt hown1 k hk).1⟩
    intro i hi h
    simp [Value.ownBlock] at h
    omega

/-- what has been made of a copy -/
structure CpQ (W0 : World) (H B : Nat) (D : Dsk) (x1 x2 x3 : Option Value) (w : World) : Prop where
  mod : Mod (fun _ => False) W0 w
  p1 : ∀ v, x1 = some v → OwnB w B v D.safe ∧ ∀ k, v.ownBlock = some k → H ≤ k
  p2 : ∀ v, x2 = some v → OwnB w B v D.now ∧ ∀ k, v.ownBlock = some k → H ≤ k
  p3 : ∀ v, x3 = some v → OwnC w B v D.l ∧ ∀ k, v.ownBlock = some k → H ≤ k
  ap : ∀ v v', x1 = some v → x2 = some v' → ∀ k, v.ownBlock = some k → v'.ownBlock ≠ some k

section
variable {W0 w : World} {H B : Nat} {D : Dsk} {x1 x2 x3 : Option Value}
theorem CpQ.drew (Q : CpQ W0 H B D x1 x2 x3 w) : CpQ W0 H B D x1 x2 x3 w.drew :=
  have m : Mod (fun _ => False) w w.drew := Mod.drew _ _
  ⟨Q.mod.trans' m, fun v h => ⟨(Q.p1 v h).1.mod m (fun _ _ => id), (Q.p1 v h).2⟩, fun v h => ⟨(Q.p2 v h).1.mod m (fun _ _ => id), (Q.p2 v h).2⟩, fun v h => ⟨(Q.p3 v h).1.mod m (fun _ _ => id), (Q.p3 v h).2⟩, Q.ap⟩

theorem CpQ.safe (Q : CpQ W0 H B D none x2 x3 w) (hH : H ≤ W0.heap.size) (hB : B ≤ W0.heap.size) {a : Option Addr} {cap : Nat} (ho : OwnB W0 B (.slice a D.safe.length cap) D.safe) (hwf : D.wf) :
    Calls Try.prog 86 #[.slice a D.safe.length cap] w fun e w' => ∃ v, e = .returned v ∧ CpQ W0 H B D (some v) x2 x3 w' := by
  have hs := Q.mod.size
  have hb := hwf.bound
  have hp := hwf.pos'
  have ho' := ho.mod Q.mod (fun _ _ => id)
  obtain ⟨g, cap', cur, e, -⟩ := ho'.row (by intro e; rw [e] at hp; simp at hp)
  cases e
  have hbs := (OwnB.bytes ho').2
  refine (clone_any _ D.safe _ w B (by omega) (by omega) (fun e => by cases e) hbs).mono fun e w' ⟨v, he, hv, hm, hn⟩ => ⟨v, he, Q.mod.trans' hm, fun u hu => ?_, fun u hu => ?_, fun u hu => ?_, fun u u' hu hu' k hk hk' => ?_⟩
  · cases hu; exact ⟨hv, fun k hk => by have := hn k hk; omega⟩
  · exact ⟨(Q.p2 u hu).1.mod hm (fun _ _ => id), (Q.p2 u hu).2⟩
  · exact ⟨(Q.p3 u hu).1.mod hm (fun _ _ => id), (Q.p3 u hu).2⟩
  · cases hu
    have := hn k hk
    have := (World.ownsRow.lt (Q.p2 u' hu').1 k hk').2
    omega

theorem CpQ.now (Q : CpQ W0 H B D x1 none x3 w) (hH : H ≤ W0.heap.size) (hB : B ≤ W0.heap.size) {a : Option Addr} {cap : Nat} (ho : OwnB W0 B (.slice a D.now.length cap) D.now) (hwf : D.wf) :
    Calls Try.prog 86 #[.slice a D.now.length cap] w fun e w' => ∃ v, e = .returned v ∧ CpQ W0 H B D x1 (some v) x3 w' := by
  have hs := Q.mod.size
  have hb := hwf.bound
  have hp := hwf.pos'
  have hnn := hwf.now
  have ho' := ho.mod Q.mod (fun _ _ => id)
  obtain ⟨g, cap', cur, e, -⟩ := ho'.row (by intro e; rw [e] at hnn; simp at hnn; omega)
  cases e
  have hbs := (OwnB.bytes ho').2
  refine (clone_any _ D.now _ w B (by omega) (by omega) (fun e => by cases e) hbs).mono fun e w' ⟨v, he, hv, hm, hn⟩ => ⟨v, he, Q.mod.trans' hm, fun u hu => ?_, fun u hu => ?_, fun u hu => ?_, fun u u' hu hu' k hk hk' => ?_⟩
  · exact ⟨(Q.p1 u hu).1.mod hm (fun _ _ => id), (Q.p1 u hu).2⟩
  · cases hu; exact ⟨hv, fun k hk => by have := hn k hk; omega⟩
  · exact ⟨(Q.p3 u hu).1.mod hm (fun _ _ => id), (Q.p3 u hu).2⟩
  · cases hu'
    have := hn k hk'
    have := (World.ownsRow.lt (Q.p1 u hu).1 k hk).2
    omega

theorem CpQ.last (Q : CpQ W0 H B D x1 x2 none w) (hH : H ≤ W0.heap.size) (hB : B ≤ W0.heap.size) {v0 : Value} (ho : OwnC W0 B v0 D.l) (hwf : D.wf) (hlim : D.l.length ≤ 1048576) :
    Calls Try.prog 88 #[v0] w fun e w' => ∃ v, e = .returned v ∧ CpQ W0 H B D x1 x2 (some v) w' := by
  have hs := Q.mod.size
  have ho' := ho.mod Q.mod (fun _ _ => id)
  refine (clonec_any ho' (fun x hx => (hwf.l x hx).2) hlim B (by omega)).mono fun e w' ⟨v, he, hv, hm, hn⟩ => ⟨v, he, Q.mod.trans' hm, fun u hu => ?_, fun u hu => ?_, fun u hu => ?_, Q.ap⟩
  · exact ⟨(Q.p1 u hu).1.mod hm (fun _ _ => id), (Q.p1 u hu).2⟩
  · exact ⟨(Q.p2 u hu).1.mod hm (fun _ _ => id), (Q.p2 u hu).2⟩
  · cases hu; exact ⟨hv, fun k hk => by have := hn k hk; omega⟩
end

/-- a copy's block, behind its three stores -/
theorem copy_end {w W0 w3 : World} {B p : Nat} {vs vn vl v1 v2 v3 u1 u2 u3 : Value} {D : Dsk} (h : DiskV w B p vs vn vl D) (hB : B ≤ w.heap.size) (m0 : Mod (fun _ => False) w W0)
    (hat : W0.heap[w.heap.size]? = some (.cells #[u1, u2, u3, .bool D.bad, .bool D.full, .bool D.gone] 129 (0, 0))) (Q : CpQ W0 (w.heap.size + 1) B D (some v1) (some v2) (some v3) w3) :
    Born w B (.pointer (some ⟨w.heap.size, 0, none⟩)) D (((w3.setCell ⟨w.heap.size, 0, none⟩ v1).setCell ⟨w.heap.size, 1, none⟩ v2).setCell ⟨w.heap.size, 2, none⟩ v3) := by
  have hat3 := Q.mod.obj hat id
  have a1 := setCell_block (i := 0) hat3 v1
  have a2 := setCell_block (i := 1) a1 v2
  have a3 := setCell_block (i := 2) a2 v3
  have m : Mod (fun k => k = w.heap.size) w3 (((w3.setCell ⟨w.heap.size, 0, none⟩ v1).setCell ⟨w.heap.size, 1, none⟩ v2).setCell ⟨w.heap.size, 2, none⟩ v3) :=
    ((Mod.setCell (F := fun k => k = w.heap.size) w3 _ v1 rfl).trans' (Mod.setCell (F := fun k => k = w.heap.size) _ _ v2 rfl)).trans' (Mod.setCell (F := fun k => k = w.heap.size) _ _ v3 rfl)
  generalize ((w3.setCell ⟨w.heap.size, 0, none⟩ v1).setCell ⟨w.heap.size, 1, none⟩ v2).setCell ⟨w.heap.size, 2, none⟩ v3 = w4 at *
  obtain ⟨o1, f1⟩ := Q.p1 v1 rfl
  obtain ⟨o2, f2⟩ := Q.p2 v2 rfl
  obtain ⟨o3, f3⟩ := Q.p3 v3 rfl
  refine ⟨w.heap.size, _, rfl, ⟨v1, v2, v3, ⟨h.wf, by simpa using a3, hB, o1.mod m ?_, o2.mod m ?_, o3.mod m ?_, ?_⟩, rfl⟩, ?_, ?_⟩
  · intro k hk e
    have := f1 k hk
    omega
  · intro k hk e
    have := f2 k hk
    omega
  · intro k hk e
    have := f3 k hk
    omega
  · intro e
    have hp := h.wf.pos'
    obtain ⟨g, _, _, e1, -⟩ := o1.row (by intro e; rw [e] at hp; simp at hp)
    have hg : v1.ownBlock = some g := by rw [e1]; rfl
    exact Q.ap v1 v2 rfl rfl g hg (by rw [← e, hg])
  · refine ((m0.trans' Q.mod).mono (fun _ _ e => e)).trans m ?_
    intro i hi e
    omega
  · rintro k (e | e | e | e)
    · omega
    · have := f1 k e.symm; omega
    · have := f2 k e.symm; omega
    · have := f3 k e.symm; omega

set_option maxHeartbeats 1000000 in
set_option maxRecDepth 100000 in
theorem copy_any {w : World} {B p : Nat} {vs vn vl : Value} {D : Dsk} (h : DiskV w B p vs vn vl D) (hB : B ≤ w.heap.size) (hlim : D.l.length ≤ 1048576) :
    Calls Try.prog 44 #[.pointer (some ⟨p, 0, none⟩)] w fun e w' => ∃ v, e = .returned v ∧ Born w B v D w' := by
  have h0 := h
  obtain ⟨c0, c1, c2, c3, c4, c5⟩ := h.cell
  obtain ⟨a1, cs, es, -, -, hbs⟩ := h.safe.shape
  obtain ⟨a2, cn, en, -, -, hbn⟩ := h.now.shape
  obtain ⟨a3, cl, el, -, -⟩ := h.l.shape
  subst es en el
  obtain ⟨W0, hW⟩ : ∃ W0, W0 = w.alloc (.cells #[.slice a1 D.safe.length cs, .slice a2 D.now.length cn, .slice a3 D.l.length cl, .bool D.bad, .bool D.full, .bool D.gone] 129) := ⟨_, rfl⟩
  have m0 : Mod (fun _ => False) w W0 := by rw [hW]; exact Mod.alloc _ _ _
  have hat : W0.heap[w.heap.size]? = some (.cells #[.slice a1 D.safe.length cs, .slice a2 D.now.length cn, .slice a3 D.l.length cl, .bool D.bad, .bool D.full, .bool D.gone] 129 (0, 0)) := by rw [hW]; exact heap_alloc_new w _
  have hsz : W0.heap.size = w.heap.size + 1 := by rw [hW]; simp
  have hd := h.mod m0 (fun _ _ => id)
  have Q0 : CpQ W0 (w.heap.size + 1) B D none none none W0 := ⟨Mod.refl _ _, by simp, by simp, by simp, by simp⟩
  have hpg : p ≠ w.heap.size := by have := (h.lt p foot_p).2; omega
  have hH : w.heap.size + 1 ≤ W0.heap.size := by omega
  have hB0 : B ≤ W0.heap.size := by omega
  have kS : ∀ x1 x2 x3 w', CpQ W0 (w.heap.size + 1) B D x1 x2 x3 w' → (w'.cell? ⟨p, 0, none⟩ = some (.slice a1 D.safe.length cs) ∧ w'.cell? ⟨p, 1, none⟩ = some (.slice a2 D.now.length cn) ∧ w'.cell? ⟨p, 2, none⟩ = some (.slice a3 D.l.length cl)) := by
    intro x1 x2 x3 w' Q
    obtain ⟨d0, d1, d2, -⟩ := hd.cell
    exact ⟨Q.mod.cell' d0 id, Q.mod.cell' d1 id, Q.mod.cell' d2 id⟩
  have kG : ∀ x1 x2 x3 w', CpQ W0 (w.heap.size + 1) B D x1 x2 x3 w' → w'.heap[w.heap.size]? = some (.cells #[.slice a1 D.safe.length cs, .slice a2 D.now.length cn, .slice a3 D.l.length cl, .bool D.bad, .bool D.full, .bool D.gone] 129 (0, 0)) := fun _ _ _ _ Q => Q.mod.obj hat id
  have k1 : ∀ x2 x3 w', CpQ W0 (w.heap.size + 1) B D none x2 x3 w' → Calls Try.prog 86 #[.slice a1 D.safe.length cs] w' fun e w'' => ∃ v, e = .returned v ∧ CpQ W0 (w.heap.size + 1) B D (some v) x2 x3 w'' := fun _ _ _ Q => Q.safe hH hB0 hd.safe h.wf
  have k2 : ∀ x1 x3 w', CpQ W0 (w.heap.size + 1) B D x1 none x3 w' → Calls Try.prog 86 #[.slice a2 D.now.length cn] w' fun e w'' => ∃ v, e = .returned v ∧ CpQ W0 (w.heap.size + 1) B D x1 (some v) x3 w'' := fun _ _ _ Q => Q.now hH hB0 hd.now h.wf
  have k3 : ∀ x1 x2 w', CpQ W0 (w.heap.size + 1) B D x1 x2 none w' → Calls Try.prog 88 #[.slice a3 D.l.length cl] w' fun e w'' => ∃ v, e = .returned v ∧ CpQ W0 (w.heap.size + 1) B D x1 x2 (some v) w'' := fun _ _ _ Q => Q.last hH hB0 hd.l h.wf hlim
  have kE : ∀ v1 v2 v3 w3, CpQ W0 (w.heap.size + 1) B D (some v1) (some v2) (some v3) w3 → Born w B (.pointer (some ⟨w.heap.size, 0, none⟩)) D (((w3.setCell ⟨w.heap.size, 0, none⟩ v1).setCell ⟨w.heap.size, 1, none⟩ v2).setCell ⟨w.heap.size, 2, none⟩ v3) := fun _ _ _ _ Q => copy_end h0 hB m0 hat Q
  have KS := Lib.hid kS
  have KG := Lib.hid kG
  have K1 := Lib.hid k1
  have K2 := Lib.hid k2
  have K3 := Lib.hid k3
  have KE := Lib.hid kE
  clear kS kG k1 k2 k3 kE
  go_enter Try.func44, Try.ntmps44
  go_upto_region 4 with fail
  rw [← hW]
  have Q := Q0.drew
  clear hW hat hd h h0 hbs hbn hlim hH hB0 m0 Q0 c0 c1 c2 c3 c4 c5
  go_region_held3 (fun w' => w'.cell? ⟨p, 0, none⟩ = some (.slice a1 D.safe.length cs) ∧ w'.cell? ⟨p, 1, none⟩ = some (.slice a2 D.now.length cn) ∧ w'.cell? ⟨p, 2, none⟩ = some (.slice a3 D.l.length cl))
    (first
      | exact KS.out _ _ _ _ (by assumption)
      | (refine ⟨?_, ?_, ?_⟩ <;> (repeat (with_reducible refine (Mod.setCell (F := fun k => k = w.heap.size) _ _ _ rfl).cell' ?_ hpg)) <;> first | exact (KS.out _ _ _ _ (by assumption)).1 | exact (KS.out _ _ _ _ (by assumption)).2.1 | exact (KS.out _ _ _ _ (by assumption)).2.2))
    (first
      | (go_at_call 86; (with_reducible refine (K1.out _ _ _ (by assumption)).mono ?_); rintro e wa ⟨v1, rfl, Q⟩; obtain ⟨av1, cv1, e1, -⟩ := (Q.p1 _ rfl).1.shape; subst e1; have G := KG.out _ _ _ _ Q; have g0 := cell_of_row wa w.heap.size 0 _ 129 (0, 0) G; have g1 := cell_of_row wa w.heap.size 1 _ 129 (0, 0) G; have g2 := cell_of_row wa w.heap.size 2 _ 129 (0, 0) G; have t0 := thaw_of (i := 0) G; have t1 := thaw_of (i := 1) G; have t2 := thaw_of (i := 2) G)
      | (go_at_call 86; (with_reducible refine (K2.out _ _ _ (by assumption)).mono ?_); rintro e wa ⟨v2, rfl, Q⟩; obtain ⟨av2, cv2, e2, -⟩ := (Q.p2 _ rfl).1.shape; subst e2; have G := KG.out _ _ _ _ Q; have g0 := cell_of_row wa w.heap.size 0 _ 129 (0, 0) G; have g1 := cell_of_row wa w.heap.size 1 _ 129 (0, 0) G; have g2 := cell_of_row wa w.heap.size 2 _ 129 (0, 0) G; have t0 := thaw_of (i := 0) G; have t1 := thaw_of (i := 1) G; have t2 := thaw_of (i := 2) G)
      | (go_at_call 88; (with_reducible refine (K3.out _ _ _ (by assumption)).mono ?_); rintro e wa ⟨v3, rfl, Q⟩; obtain ⟨av3, cv3, e3, -⟩ := (Q.p3 _ rfl).1.shape; subst e3; have G := KG.out _ _ _ _ Q; have g0 := cell_of_row wa w.heap.size 0 _ 129 (0, 0) G; have g1 := cell_of_row wa w.heap.size 1 _ 129 (0, 0) G; have g2 := cell_of_row wa w.heap.size 2 _ 129 (0, 0) G; have t0 := thaw_of (i := 0) G; have t1 := thaw_of (i := 1) G; have t2 := thaw_of (i := 2) G))
  all_goals
    go_wp2_with fail
    go_ret
    exact ⟨_, rfl, KE.out _ _ _ _ (by assumption)⟩

theorem Apart.copy {w0 w : World} {B p : Nat} {Ts : List (Thg B)} {D : Dsk} (h : Apart w0 B Ts w) (i : Nat) (hi : Ts[i]? = some (DiskT B p D)) (hlim : D.l.length ≤ 1048576) :
    Calls Try.prog 44 #[.pointer (some ⟨p, 0, none⟩)] w fun e w' => ∃ q, e = .returned (.pointer (some ⟨q, 0, none⟩)) ∧ Apart w0 B (Ts ++ [DiskT B q D]) w' := by
  obtain ⟨F, hd⟩ := h.disk i hi
  obtain ⟨vs, vn, vl, hd, -⟩ := hd
  refine (copy_any hd h.le hlim).mono fun e w' ⟨v, he, hb⟩ => ?_
  obtain ⟨q, rfl, hs⟩ := h.born hb
  exact ⟨q, he, hs⟩
end Go.Proofs.Ytdinnkacilgmmaa
namespace Go.Proofs.Ytdinnkacilgmmaa
open Go.RowKit

section
variable {w : World} {ops : Array Oper} {rest : List Oper} {o : Oper} {a : Act} {Q : Exit → Act → World → Prop}
/-- append(v, r...) on bytes that are owned, and where the new slice lies -/
theorem appB_at (hgd : o.guard = none) (s x : Operand) (ho : o.op = .call { callee := .builtin .append, args := #[s, x], argTypes := #[22, 22] })
    (B : Nat) (v : Value) (l : List UInt8) (hs : a.eval s = v) (hown : OwnB w B v l)
    (ax : Option Addr) (m c : Nat) (r : List UInt8) (hx : a.eval x = .slice ax m c) (hm : r.length = m) (hc : ax = none → c = 0) (hr : BytesAt w ax r)
    (h47 : l.length + r.length ≤ 140737488355328) (hB : B ≤ w.heap.size)
    (h : ∀ v' w', OwnB w' B v' (l ++ r) → Mod (fun k => some k = v.ownBlock) w w' → (v'.ownBlock = v.ownBlock ∨ v'.ownBlock = some w.heap.size) → wpList Try.prog ops Q rest (a.put o.dst v') w') :
    wpList Try.prog ops Q (o :: rest) a w := by
  subst hm
  obtain ⟨i, hi, hz, hs1, hb1⟩ := info_parts info5
  cases ax with
  | none =>
    have hr0 : r = [] := by
      cases r with
      | nil => rfl
      | cons c r => obtain ⟨_, _, e, _⟩ := hr (by simp); cases e
    subst hr0
    have : c = 0 := hc rfl
    subst this
    refine wpList_append_own_none hgd s x 22 ho B 5 i 1 Try.underlying22 hi v _ _ hs hown hx ?_
    exact h v w (by simpa using hown) (Mod.refl _ _) (.inl rfl)
  | some ad =>
    have hnews : ∀ (j : Nat) u, (r.map byteV)[j]? = some u → w.cell? (ad.add j) = some u := by
      by_cases hl : r = []
      · subst hl; intro j u hu; simp at hu
      · obtain ⟨ad', e, h1⟩ := bytesAt_cells hr hl
        cases e; exact h1
    refine wpList_append_own_at w hgd s x 22 ho B 5 i _ 1 1 Try.underlying22 hi hz hs1 hb1 rfl (by decide) v l.length (l.map byteV) hs hown ad r.length c (r.map byteV) hx (by simp) hnews (bytes_oneCell r)
      (by unfold maxLen; omega) (by omega) hB ?_
    intro v' w' h1 h2 _ h3
    refine h v' w' ?_ (Mod.grown h2) h3
    unfold OwnB
    rw [List.length_append, List.map_append]
    exact h1
end

theorem Apart.grown {w0 w w' : World} {B : Nat} {Ts : List (Thg B)} {v v' : Value} {l l' : List UInt8} (h : Apart w0 B Ts w) (i : Nat) (hi : Ts[i]? = some (BytesT B v l)) (ho : OwnB w' B v' l') (hm : Mod (fun k => some k = v.ownBlock) w w')
    (hp : v'.ownBlock = v.ownBlock ∨ v'.ownBlock = some w.heap.size) : Apart w0 B (Ts.set i (BytesT B v' l')) w' := by
  obtain ⟨F, ⟨hF, rfl⟩, hup⟩ := h.turn i hi
  refine hup _ _ ⟨hm.mono (fun k _ e => e.symm), _, ⟨ho, rfl⟩, fun k hk => ?_⟩
  rcases hp with e | e
  · left; rw [← e]; exact hk
  · right
    rw [e] at hk
    cases hk
    exact Nat.le_refl _

theorem take_sector (s : List UInt8) (n : Nat) : s.take (n * 256) ++ sector s n = s.take ((n + 1) * 256) := by
  unfold sector
  rw [Nat.add_mul, Nat.one_mul, List.take_add]
end Go.Proofs.Ytdinnkacilgmmaa
