/- Things in memory that lie apart: a list of them, and what a call on one of them leaves. -/
import Derived.Test.YtdinnkacilgmmaaDisk8
namespace Go.Proofs.Ytdinnkacilgmmaa
open Go.RowKit

/-- a thing in memory: what it is, with the blocks that it lies in -/
structure Thg (B : Nat) where
  at_ : World → (Nat → Prop) → Prop
  lt : ∀ {w F}, at_ w F → ∀ k, F k → B ≤ k ∧ k < w.heap.size
  mod : ∀ {G : Nat → Prop} {w w' F}, at_ w F → Mod G w w' → (∀ k, F k → ¬ G k) → at_ w' F

/-- things that lie apart, all from the mark B on; below the mark all is as it was in w0 -/
structure Apart (w0 : World) (B : Nat) (Ts : List (Thg B)) (w : World) : Prop where
  bel : Below B w0 w
  le : B ≤ w.heap.size
  own : ∃ Fs : Nat → Nat → Prop, (∀ (i : Nat) (T : Thg B), Ts[i]? = some T → T.at_ w (Fs i)) ∧ (∀ i j, i < Ts.length → j < Ts.length → i ≠ j → ∀ k, Fs i k → ¬ Fs j k)

section
variable {w0 w w' : World} {B : Nat} {Ts : List (Thg B)}

theorem Apart.nil (hB : Below B w0 w) (hle : B ≤ w.heap.size) : Apart w0 B [] w :=
  ⟨hB, hle, fun _ _ => False, fun i T h => by simp at h, fun i j h => by simp at h⟩

/-- one of them -/
theorem Apart.get (h : Apart w0 B Ts w) (i : Nat) {T : Thg B} (hi : Ts[i]? = some T) : ∃ F, T.at_ w F := by
  obtain ⟨Fs, h1, -⟩ := h.own
  exact ⟨_, h1 i T hi⟩

/-- what a call on one of them leaves -/
def Left (T' : Thg B) (F : Nat → Prop) (w w' : World) : Prop := Mod F w w' ∧ ∃ F', T'.at_ w' F' ∧ ∀ k, F' k → F k ∨ w.heap.size ≤ k

theorem Apart.turn (h : Apart w0 B Ts w) (i : Nat) {T : Thg B} (hi : Ts[i]? = some T) :
    ∃ F, T.at_ w F ∧ ∀ (T' : Thg B) w', Left T' F w w' → Apart w0 B (Ts.set i T') w' := by
  obtain ⟨Fs, h1, h2⟩ := h.own
  have hT := h1 i T hi
  have hil : i < Ts.length := (List.getElem?_eq_some_iff.1 hi).1
  refine ⟨Fs i, hT, fun T' w' ⟨hm, F', h3, h4⟩ => ⟨h.bel.trans (hm.below (fun k hk => (T.lt hT k hk).1) h.le), Nat.le_trans h.le hm.size, fun j => if j = i then F' else Fs j, ?_, ?_⟩⟩
  · intro j S hj
    by_cases e : j = i
    · subst e
      simp only [if_true]
      rw [List.getElem?_set_self hil] at hj
      cases hj
      exact h3
    · simp only [if_neg e]
      rw [List.getElem?_set_ne (Ne.symm e)] at hj
      have hjl : j < Ts.length := (List.getElem?_eq_some_iff.1 hj).1
      exact S.mod (h1 j S hj) hm (h2 j i hjl hil e)
  · intro a b ha hb hab k hk hk'
    rw [List.length_set] at ha hb
    have lt : ∀ j, j < Ts.length → Fs j k → k < w.heap.size := fun j hj hk => ((Ts[j]).lt (h1 j _ (List.getElem?_eq_getElem hj)) k hk).2
    by_cases ea : a = i
    · subst ea
      rw [if_neg (Ne.symm hab)] at hk'
      rw [if_pos rfl] at hk
      rcases h4 k hk with e | e
      · exact h2 _ _ ha hb hab k e hk'
      · have := lt b hb hk'; omega
    · rw [if_neg ea] at hk
      by_cases eb : b = i
      · subst eb
        rw [if_pos rfl] at hk'
        rcases h4 k hk' with e | e
        · exact h2 _ _ ha hb hab k hk e
        · have := lt a ha hk; omega
      · rw [if_neg eb] at hk'
        exact h2 _ _ ha hb hab k hk hk'

/-- nothing of theirs has turned -/
theorem Apart.still (h : Apart w0 B Ts w) (hm : Mod (fun _ => False) w w') : Apart w0 B Ts w' := by
  obtain ⟨Fs, h1, h2⟩ := h.own
  exact ⟨h.bel.trans (hm.below (fun _ e => e.elim) h.le), Nat.le_trans h.le hm.size, Fs, fun i T hi => T.mod (h1 i T hi) hm (fun _ _ => id), h2⟩

/-- a new thing beside them -/
theorem Apart.more (h : Apart w0 B Ts w) (T : Thg B) (hm : Mod (fun _ => False) w w') {F : Nat → Prop} (hT : T.at_ w' F) (hF : ∀ k, F k → w.heap.size ≤ k) : Apart w0 B (Ts ++ [T]) w' := by
  obtain ⟨Fs, h1, h2⟩ := h.own
  have lt : ∀ j k, j < Ts.length → Fs j k → k < w.heap.size := fun j k hj hk => ((Ts[j]).lt (h1 j _ (List.getElem?_eq_getElem hj)) k hk).2
  refine ⟨h.bel.trans (hm.below (fun _ e => e.elim) h.le), Nat.le_trans h.le hm.size, fun i => if i < Ts.length then Fs i else F, ?_, ?_⟩
  · intro i S hi
    by_cases e : i < Ts.length
    · simp only [if_pos e]
      rw [List.getElem?_append_left e] at hi
      exact S.mod (h1 i S hi) hm (fun _ _ => id)
    · simp only [if_neg e]
      have hl := (List.getElem?_eq_some_iff.1 hi).1
      simp at hl
      obtain rfl : i = Ts.length := by omega
      simp at hi
      subst hi
      exact hT
  · intro a b ha hb hab k hk hk'
    simp only [List.length_append, List.length_cons, List.length_nil] at ha hb
    by_cases ea : a < Ts.length
    · rw [if_pos ea] at hk
      by_cases eb : b < Ts.length
      · rw [if_pos eb] at hk'
        exact h2 a b ea eb hab k hk hk'
      · rw [if_neg eb] at hk'
        have := lt a k ea hk
        have := hF k hk'
        omega
    · rw [if_neg ea] at hk
      by_cases eb : b < Ts.length
      · rw [if_pos eb] at hk'
        have := lt b k eb hk'
        have := hF k hk
        omega
      · omega

/-- the first ones of them -/
theorem Apart.take (h : Apart w0 B Ts w) (n : Nat) : Apart w0 B (Ts.take n) w := by
  obtain ⟨Fs, h1, h2⟩ := h.own
  refine ⟨h.bel, h.le, Fs, fun i T hi => h1 i T ?_, fun i j hi hj => h2 i j ?_ ?_⟩
  · rw [List.getElem?_take] at hi
    split at hi
    · exact hi
    · cases hi
  · simp at hi; omega
  · simp at hj; omega

/-- some of them, by their places -/
theorem Apart.pick (h : Apart w0 B Ts w) (Us : List (Thg B)) (f : Nat → Nat) (hf : ∀ i, i < Us.length → Us[i]? = Ts[f i]?) (hinj : ∀ i j, i < Us.length → j < Us.length → i ≠ j → f i ≠ f j) : Apart w0 B Us w := by
  obtain ⟨Fs, h1, h2⟩ := h.own
  have hlt : ∀ i, i < Us.length → f i < Ts.length := fun i hi => by
    have := hf i hi
    rw [List.getElem?_eq_getElem hi] at this
    exact (List.getElem?_eq_some_iff.1 this.symm).1
  refine ⟨h.bel, h.le, fun i => Fs (f i), fun i T hi => ?_, fun i j hi hj hij => h2 _ _ (hlt i hi) (hlt j hj) (hinj i j hi hj hij)⟩
  have hil := (List.getElem?_eq_some_iff.1 hi).1
  exact h1 _ T (by rw [← hf i hil]; exact hi)

/-- behind a call that made new memory alone -/
theorem Apart.next (h : Apart w0 B Ts w) (hm : Below w.heap.size w w') : Apart w0 B Ts w' := h.still (Mod.fresh hm _)
theorem Apart.alloc (h : Apart w0 B Ts w) (o : Obj) : Apart w0 B Ts (w.alloc o) := h.still (Mod.alloc _ _ _)
theorem Apart.drew (h : Apart w0 B Ts w) : Apart w0 B Ts w.drew := h.still (Mod.drew _ _)
end

/-! ### disks and bytes -/
def DiskT (B p : Nat) (D : Dsk) : Thg B := ⟨fun w F => DiskAt w B p D F, fun h => h.lt, fun h => h.mod⟩
def BytesT (B : Nat) (v : Value) (l : List UInt8) : Thg B :=
  ⟨fun w F => OwnB w B v l ∧ F = fun k => v.ownBlock = some k, fun {w F} h k hk => by obtain ⟨h, rfl⟩ := h; exact World.ownsRow.lt h k hk,
    fun {G w w' F} h hm hF => by obtain ⟨h, rfl⟩ := h; exact ⟨h.mod hm hF, rfl⟩⟩

theorem Turned.left {w w' : World} {B p : Nat} {F : Nat → Prop} {D' : Dsk} (h : Turned w B p F D' w') : Left (DiskT B p D') F w w' := h

section
variable {w0 w w' : World} {B p : Nat} {Ts : List (Thg B)} {D : Dsk}

theorem Apart.born (h : Apart w0 B Ts w) {v : Value} {D : Dsk} {w' : World} (hb : Born w B v D w') : ∃ p, v = .pointer (some ⟨p, 0, none⟩) ∧ Apart w0 B (Ts ++ [DiskT B p D]) w' := by
  obtain ⟨p, F, rfl, hd, hm, hF⟩ := hb
  exact ⟨p, rfl, h.more (DiskT B p D) hm hd hF⟩
theorem Apart.made (h : Apart w0 B Ts w) {v : Value} {l : List UInt8} {C : Nat} (hC : B ≤ C) (ho : OwnB w' C v l) (hm : Mod (fun _ => False) w w') (hn : ∀ k, v.ownBlock = some k → w.heap.size ≤ k) : Apart w0 B (Ts ++ [BytesT B v l]) w' :=
  h.more (BytesT B v l) hm ⟨ho.weaken hC, rfl⟩ hn

theorem Apart.bytes (h : Apart w0 B Ts w) (i : Nat) {v : Value} {l : List UInt8} (hi : Ts[i]? = some (BytesT B v l)) : OwnB w B v l := by
  obtain ⟨F, h, -⟩ := h.get i hi
  exact h
theorem Apart.disk (h : Apart w0 B Ts w) (i : Nat) {p : Nat} {D : Dsk} (hi : Ts[i]? = some (DiskT B p D)) : ∃ F, DiskAt w B p D F := h.get i hi

theorem Apart.write (h : Apart w0 B Ts w) (i : Nat) (hi : Ts[i]? = some (DiskT B p D)) (hlim : D.l.length + 1 ≤ 1048576) (n : Int) (a : Option Addr) (b : List UInt8) (m cap : Nat) (hm' : b.length = m) (hb : BytesAt w a b) (hm : b.length ≤ 140737488355328) :
    Calls Try.prog 40 #[.pointer (some ⟨p, 0, none⟩), .int .i64 n, .slice a m cap] w fun e w' => e = .returned (.int .i64 (D.why n b)) ∧ Apart w0 B (Ts.set i (DiskT B p (D.write n b))) w' := by
  obtain ⟨F, hd, hup⟩ := h.turn i hi
  exact (DiskAt.write hd hlim n a b m cap hm' hb hm).mono fun e w' ⟨he, ht⟩ => ⟨he, hup _ _ ht⟩
theorem Apart.sync (h : Apart w0 B Ts w) (i : Nat) (hi : Ts[i]? = some (DiskT B p D)) :
    Calls Try.prog 43 #[.pointer (some ⟨p, 0, none⟩)] w fun e w' => e = .returned (.int .i64 D.whySync) ∧ Apart w0 B (Ts.set i (DiskT B p D.sync)) w' := by
  obtain ⟨F, hd, hup⟩ := h.turn i hi
  exact (DiskAt.sync hd).mono fun e w' ⟨he, ht⟩ => ⟨he, hup _ _ ht⟩
theorem Apart.fail (h : Apart w0 B Ts w) (i : Nat) (hi : Ts[i]? = some (DiskT B p D)) :
    Calls Try.prog 42 #[.pointer (some ⟨p, 0, none⟩)] w fun e w' => e = .returned (.int .i64 0) ∧ Apart w0 B (Ts.set i (DiskT B p { D with bad := true })) w' := by
  obtain ⟨F, hd, hup⟩ := h.turn i hi
  exact (DiskAt.fail hd).mono fun e w' ⟨he, ht⟩ => ⟨he, hup _ _ ht⟩
theorem Apart.fullTo (h : Apart w0 B Ts w) (i : Nat) (hi : Ts[i]? = some (DiskT B p D)) (b : Bool) :
    Calls Try.prog 41 #[.pointer (some ⟨p, 0, none⟩), .bool b] w fun e w' => e = .returned (.int .i64 0) ∧ Apart w0 B (Ts.set i (DiskT B p { D with full := b })) w' := by
  obtain ⟨F, hd, hup⟩ := h.turn i hi
  exact (DiskAt.fullTo hd b).mono fun e w' ⟨he, ht⟩ => ⟨he, hup _ _ ht⟩
theorem Apart.crash0 (h : Apart w0 B Ts w) (i : Nat) (hi : Ts[i]? = some (DiskT B p D)) (a : Option Addr) (ks : List Int) (m cap : Nat) (hm' : ks.length = m) (hk : IntsAt w a ks) (hkf : ∀ x, a = some x → ks ≠ [] → ∀ F, DiskAt w B p D F → ¬ F x.block) (hm : ks.length ≤ 140737488355328) :
    Calls Try.prog 33 #[.pointer (some ⟨p, 0, none⟩), .slice a m cap] w fun e w' => e = .returned (.int .i64 0) ∧ Apart w0 B (Ts.set i (DiskT B p (D.crash ks))) w' := by
  obtain ⟨F, hd, hup⟩ := h.turn i hi
  exact (DiskAt.crash hd a ks m cap hm' hk (fun x hx hne => hkf x hx hne F hd) hm).mono fun e w' ⟨he, ht⟩ => ⟨he, hup _ _ ht⟩
theorem Apart.crashNil (h : Apart w0 B Ts w) (i : Nat) (hi : Ts[i]? = some (DiskT B p D)) :
    Calls Try.prog 33 #[.pointer (some ⟨p, 0, none⟩), .slice none 0 0] w fun e w' => e = .returned (.int .i64 0) ∧ Apart w0 B (Ts.set i (DiskT B p (D.crash []))) w' :=
  h.crash0 i hi none [] 0 0 rfl (fun h => absurd rfl h) (fun x hx => by cases hx) (by decide)
/-- Crash with numbers that lie below the mark -/
theorem Apart.crash (h : Apart w0 B Ts w) (i : Nat) (hi : Ts[i]? = some (DiskT B p D)) (a : Option Addr) (ks : List Int) (m cap : Nat) (hm' : ks.length = m) (hk : IntsAt w a ks) (hkB : ∀ x, a = some x → ks ≠ [] → x.block < B) (hm : ks.length ≤ 140737488355328) :
    Calls Try.prog 33 #[.pointer (some ⟨p, 0, none⟩), .slice a m cap] w fun e w' => e = .returned (.int .i64 0) ∧ Apart w0 B (Ts.set i (DiskT B p (D.crash ks))) w' :=
  h.crash0 i hi a ks m cap hm' hk (fun x hx hne F hd e => by have := (hd.lt _ e).1; have := hkB x hx hne; omega) hm
/-- Crash with numbers that were just laid -/
theorem Apart.crashNew (h : Apart w0 B Ts w) (i : Nat) (hi : Ts[i]? = some (DiskT B p D)) (ks : List Int) (m cap : Nat) (o : Obj) (hm' : ks.length = m) (hk : IntsAt (w.alloc o) (some ⟨w.heap.size, 0, none⟩) ks) (hm : ks.length ≤ 140737488355328) :
    Calls Try.prog 33 #[.pointer (some ⟨p, 0, none⟩), .slice (some ⟨w.heap.size, 0, none⟩) m cap] (w.alloc o) fun e w' => e = .returned (.int .i64 0) ∧ Apart w0 B (Ts.set i (DiskT B p (D.crash ks))) w' := by
  obtain ⟨F, hd, hup⟩ := h.turn i hi
  have hm0 : Mod (fun _ => False) w (w.alloc o) := Mod.alloc _ _ _
  have hd' := DiskAt.mod hd hm0 (fun _ _ => id)
  exact (DiskAt.crash hd' _ ks m cap hm' hk (fun x hx hne e => by cases hx; have := (DiskAt.lt hd _ e).2; simp at this) hm).mono fun e w' ⟨he, ht⟩ => ⟨he, hup _ _ (ht.pre hm0)⟩
theorem Apart.read (h : Apart w0 B Ts w) (i : Nat) (hi : Ts[i]? = some (DiskT B p D)) (n : Int) : Calls Try.prog 37 #[.pointer (some ⟨p, 0, none⟩), .int .i64 n] w fun e w' =>
    ∃ v, e = .returned (.tuple #[v, .int .i64 (D.wrong n)]) ∧ Apart w0 B (Ts ++ [BytesT B v (if D.wrong n = 0 then sector D.now n.toNat else [])]) w' := by
  obtain ⟨F, hd⟩ := h.disk i hi
  exact (DiskAt.read hd n B h.le).mono fun e w' ⟨v, he, ho, hm, hn⟩ => ⟨v, he, h.made (Nat.le_refl _) ho hm hn⟩
theorem Apart.image (h : Apart w0 B Ts w) (i : Nat) (hi : Ts[i]? = some (DiskT B p D)) : Calls Try.prog 34 #[.pointer (some ⟨p, 0, none⟩)] w fun e w' =>
    ∃ v, e = .returned v ∧ Apart w0 B (Ts ++ [BytesT B v D.safe]) w' := by
  obtain ⟨F, hd⟩ := h.disk i hi
  exact (DiskAt.image hd B h.le).mono fun e w' ⟨v, he, ho, hm, hn⟩ => ⟨v, he, h.made (Nat.le_refl _) ho hm hn⟩
theorem Apart.size (h : Apart w0 B Ts w) (i : Nat) (hi : Ts[i]? = some (DiskT B p D)) : Calls Try.prog 52 #[.pointer (some ⟨p, 0, none⟩)] w fun e w' => e = .returned (.int .i64 (D.N : Int)) ∧ w = w' := by
  obtain ⟨F, hd⟩ := h.disk i hi
  exact DiskAt.size hd
theorem Apart.unsynced (h : Apart w0 B Ts w) (i : Nat) (hi : Ts[i]? = some (DiskT B p D)) (n : Int) (hn : (D.l.length : Int) = n) : Calls Try.prog 39 #[.pointer (some ⟨p, 0, none⟩)] w fun e w' => e = .returned (.int .i64 n) ∧ w = w' := by
  obtain ⟨F, hd⟩ := h.disk i hi
  rw [← hn]
  exact DiskAt.unsynced hd
theorem Apart.dead (h : Apart w0 B Ts w) (i : Nat) (hi : Ts[i]? = some (DiskT B p D)) : Calls Try.prog 38 #[.pointer (some ⟨p, 0, none⟩)] w fun e w' => e = .returned (.bool D.gone) ∧ w = w' := by
  obtain ⟨F, hd⟩ := h.disk i hi
  exact DiskAt.dead hd
theorem Apart.doOp (h : Apart w0 B Ts w) (i : Nat) (hi : Ts[i]? = some (DiskT B p D)) (hlim : D.l.length + 1 ≤ 1048576) (o : OpV) (ab : Option Addr) (cb : Nat) (al : Option Addr) (cl : Nat)
    (hb : BytesAt w ab o.b) (hab : ab = none → cb = 0) (hl : IntsAt w al o.l) (hm : o.b.length ≤ 140737488351232) (hml : o.l.length ≤ 140737488351232)
    (hbB : ∀ x, ab = some x → o.b ≠ [] → x.block < B) (hlB : ∀ x, al = some x → o.l ≠ [] → x.block < B) :
    Calls Try.prog 32 #[.pointer (some ⟨p, 0, none⟩), .agg #[.int .i64 o.kind, .int .i64 o.n, .slice ab o.b.length cb, .slice al o.l.length cl]] w fun e w' =>
      e = .returned (.int .i64 (D.doCode o)) ∧ Apart w0 B (Ts.set i (DiskT B p (D.step o))) w' := by
  obtain ⟨F, hd, hup⟩ := h.turn i hi
  exact (do_any hd h.le hlim o ab cb al cl hb hab hl hm hml hbB hlB).mono fun e w' ⟨he, ht⟩ => ⟨he, hup _ _ ht⟩
theorem Apart.newDisk (h : Apart w0 B Ts w) (n : Nat) (h1 : 1 ≤ n) (h2 : n ≤ 4096) :
    Calls Try.prog 31 #[.int .i64 (n : Int)] w fun e w' => ∃ p, e = .returned (.tuple #[.pointer (some ⟨p, 0, none⟩), .int .i64 0]) ∧ Apart w0 B (Ts ++ [DiskT B p (Dsk.of (List.replicate (n * 256) 0))]) w' := by
  refine (new_ok (w := w) (B := B) h.le n h1 h2).mono fun e w' ⟨v, he, hb⟩ => ?_
  obtain ⟨p, rfl, hs⟩ := h.born hb
  exact ⟨p, he, hs⟩
theorem Apart.known3 (h : Apart w0 B Ts w) : Calls Try.prog 35 #[] w fun e w' => e = .returned (.bool true) ∧ Apart w0 B Ts w' :=
  (known3_any w).mono fun _ _ ⟨he, hb⟩ => ⟨he, h.next hb⟩
/-- string(b), of bytes of theirs -/
theorem Apart.str (h : Apart w0 B Ts w) (i : Nat) {v : Value} {l : List UInt8} (hi : Ts[i]? = some (BytesT B v l)) : (convert 22 9 v).run Try.prog w = .ok (.string ⟨l.toArray⟩) w := by
  obtain ⟨a, c, rfl, -, -, hb⟩ := (h.bytes i hi).shape
  exact run_str hb l.length c rfl
end
end Go.Proofs.Ytdinnkacilgmmaa
