/- The journal beside other things: its calls, said of things that lie apart. -/
import Derived.Test.YtdinnkacilgmmaaJour9
namespace Go.Proofs.Ytdinnkacilgmmaa
open Go.RowKit

section
variable {w0 w : World} {B : Nat} {Ts : List (Thg B)}

theorem Apart.turn2 (h : Apart w0 B Ts w) (i j : Nat) {S T : Thg B} (hi : Ts[i]? = some S) (hj : Ts[j]? = some T) (hij : i ≠ j) :
    ∃ F G, S.at_ w F ∧ T.at_ w G ∧ (∀ k, F k → ¬ G k) ∧ ∀ (S' T' : Thg B) (w' : World) (F' G' : Nat → Prop), Mod (fun k => F k ∨ G k) w w' → S'.at_ w' F' → T'.at_ w' G' → (∀ k, F' k → ¬ G' k) → (∀ k, F' k → F k ∨ w.heap.size ≤ k) → (∀ k, G' k → G k ∨ w.heap.size ≤ k) →
      Apart w0 B ((Ts.set i S').set j T') w' := by
  obtain ⟨Fs, h1, h2⟩ := h.own
  have hil : i < Ts.length := (List.getElem?_eq_some_iff.1 hi).1
  have hjl : j < Ts.length := (List.getElem?_eq_some_iff.1 hj).1
  have hS := h1 i S hi
  have hT := h1 j T hj
  have lt : ∀ n k, n < Ts.length → Fs n k → k < w.heap.size := fun n k hn hk => ((Ts[n]).lt (h1 n _ (List.getElem?_eq_getElem hn)) k hk).2
  refine ⟨Fs i, Fs j, hS, hT, h2 i j hil hjl hij, fun S' T' w' F' G' hm hS' hT' hd hF hG => ⟨h.bel.trans (hm.below (fun k hk => hk.elim (fun e => (S.lt hS k e).1) (fun e => (T.lt hT k e).1)) h.le), Nat.le_trans h.le hm.size, fun n => if n = j then G' else if n = i then F' else Fs n, ?_, ?_⟩⟩
  · intro n U hn
    by_cases ej : n = j
    · subst ej
      simp only [if_true]
      rw [List.getElem?_set_self (by rw [List.length_set]; exact hjl)] at hn
      cases hn
      exact hT'
    · simp only [if_neg ej]
      rw [List.getElem?_set_ne (Ne.symm ej)] at hn
      by_cases ei : n = i
      · subst ei
        simp only [if_true]
        rw [List.getElem?_set_self hil] at hn
        cases hn
        exact hS'
      · simp only [if_neg ei]
        rw [List.getElem?_set_ne (Ne.symm ei)] at hn
        have hnl : n < Ts.length := (List.getElem?_eq_some_iff.1 hn).1
        exact U.mod (h1 n U hn) hm (fun k hk e => e.elim (h2 n i hnl hil ei k hk) (h2 n j hnl hjl ej k hk))
  · intro a b ha hb hab k hk hk'
    rw [List.length_set, List.length_set] at ha hb
    have old : ∀ n, n < Ts.length → n ≠ i → n ≠ j → Fs n k → ¬ F' k ∧ ¬ G' k := fun n hn e1 e2 hk => by
      have := lt n k hn hk
      refine ⟨fun e => ?_, fun e => ?_⟩
      · rcases hF k e with e | e
        · exact h2 n i hn hil e1 k hk e
        · omega
      · rcases hG k e with e | e
        · exact h2 n j hn hjl e2 k hk e
        · omega
    by_cases ea : a = j
    · rw [if_pos ea] at hk
      by_cases eb : b = i
      · rw [if_neg (by omega), if_pos eb] at hk'
        exact hd k hk' hk
      · rw [if_neg (by omega), if_neg eb] at hk'
        exact (old b hb eb (by omega) hk').2 hk
    · rw [if_neg ea] at hk
      by_cases ea2 : a = i
      · rw [if_pos ea2] at hk
        by_cases eb : b = j
        · rw [if_pos eb] at hk'
          exact hd k hk hk'
        · rw [if_neg eb, if_neg (by omega)] at hk'
          exact (old b hb (by omega) eb hk').1 hk
      · rw [if_neg ea2] at hk
        have ho := old a ha ea2 ea hk
        by_cases eb : b = j
        · rw [if_pos eb] at hk'
          exact ho.2 hk'
        · rw [if_neg eb] at hk'
          by_cases eb2 : b = i
          · rw [if_pos eb2] at hk'
            exact ho.1 hk'
          · rw [if_neg eb2] at hk'
            exact h2 a b ha hb hab k hk hk'

/-- one turned, and two new ones beside -/
theorem Apart.turnNew2 (h : Apart w0 B Ts w) (j : Nat) {T : Thg B} (hj : Ts[j]? = some T) :
    ∃ G, T.at_ w G ∧ ∀ (T' U V : Thg B) (w' : World) (G' H K : Nat → Prop), Mod G w w' → T'.at_ w' G' → U.at_ w' H → V.at_ w' K → (∀ k, G' k → G k ∨ w.heap.size ≤ k) → (∀ k, H k → w.heap.size ≤ k) → (∀ k, K k → w.heap.size ≤ k) →
      (∀ k, G' k → ¬ H k ∧ ¬ K k) → (∀ k, H k → ¬ K k) → Apart w0 B (Ts.set j T' ++ [U, V]) w' := by
  obtain ⟨Fs, h1, h2⟩ := h.own
  have hjl : j < Ts.length := (List.getElem?_eq_some_iff.1 hj).1
  have hT := h1 j T hj
  have lt : ∀ n k, n < Ts.length → Fs n k → k < w.heap.size := fun n k hn hk => ((Ts[n]).lt (h1 n _ (List.getElem?_eq_getElem hn)) k hk).2
  refine ⟨Fs j, hT, fun T' U V w' G' H K hm hT' hU hV hG hH hK hd1 hd2 => ⟨h.bel.trans (hm.below (fun k hk => (T.lt hT k hk).1) h.le), Nat.le_trans h.le hm.size, fun n => if n = j then G' else if n < Ts.length then Fs n else if n = Ts.length then H else K, ?_, ?_⟩⟩
  · intro n X hn
    show X.at_ w' (if n = j then G' else if n < Ts.length then Fs n else if n = Ts.length then H else K)
    by_cases hnl : n < Ts.length
    · rw [List.getElem?_append_left (by rw [List.length_set]; exact hnl)] at hn
      by_cases ej : n = j
      · subst ej
        rw [if_pos rfl]
        rw [List.getElem?_set_self hjl] at hn
        cases hn
        exact hT'
      · rw [if_neg ej, if_pos hnl]
        rw [List.getElem?_set_ne (Ne.symm ej)] at hn
        exact X.mod (h1 n X hn) hm (h2 n j hnl hjl ej)
    · rw [if_neg (by omega), if_neg hnl]
      rw [List.getElem?_append_right (by rw [List.length_set]; omega), List.length_set] at hn
      have : n - Ts.length < 2 := by
        have := (List.getElem?_eq_some_iff.1 hn).1
        simpa using this
      by_cases e : n = Ts.length
      · rw [if_pos e]
        rw [e, Nat.sub_self] at hn
        cases hn
        exact hU
      · rw [if_neg e]
        rw [show n - Ts.length = 1 by omega] at hn
        cases hn
        exact hV
  · intro a b ha hb hab k hk hk'
    rw [List.length_append, List.length_set] at ha hb
    simp only [List.length_cons, List.length_nil] at ha hb
    have cls : ∀ n, n < Ts.length + 2 → (if n = j then G' else if n < Ts.length then Fs n else if n = Ts.length then H else K) k → (n = j ∧ G' k) ∨ (n ≠ j ∧ n < Ts.length ∧ Fs n k) ∨ (n = Ts.length ∧ H k) ∨ (n = Ts.length + 1 ∧ K k) := fun n hn hk => by
      by_cases e : n = j
      · rw [if_pos e] at hk; exact .inl ⟨e, hk⟩
      · rw [if_neg e] at hk
        by_cases e2 : n < Ts.length
        · rw [if_pos e2] at hk; exact .inr (.inl ⟨e, e2, hk⟩)
        · rw [if_neg e2] at hk
          by_cases e3 : n = Ts.length
          · rw [if_pos e3] at hk; exact .inr (.inr (.inl ⟨e3, hk⟩))
          · rw [if_neg e3] at hk; exact .inr (.inr (.inr ⟨by omega, hk⟩))
    have oldG : ∀ n, n ≠ j → n < Ts.length → Fs n k → ¬ G' k := fun n h3 h4 h5 h6 => by
      rcases hG k h6 with e | e
      · exact h2 n j h4 hjl h3 k h5 e
      · have := lt n k h4 h5; omega
    have oldN : ∀ n, n < Ts.length → Fs n k → ¬ H k ∧ ¬ K k := fun n h4 h5 => by
      have := lt n k h4 h5
      exact ⟨fun e => by have := hH k e; omega, fun e => by have := hK k e; omega⟩
    rcases cls a ha hk with ⟨e1, h3⟩ | ⟨e1, e2, h3⟩ | ⟨e1, h3⟩ | ⟨e1, h3⟩ <;> rcases cls b hb hk' with ⟨f1, h4⟩ | ⟨f1, f2, h4⟩ | ⟨f1, h4⟩ | ⟨f1, h4⟩
    · omega
    · exact oldG b f1 f2 h4 h3
    · exact (hd1 k h3).1 h4
    · exact (hd1 k h3).2 h4
    · exact oldG a e1 e2 h3 h4
    · exact h2 a b e2 f2 hab k h3 h4
    · exact (oldN a e2 h3).1 h4
    · exact (oldN a e2 h3).2 h4
    · exact (hd1 k h4).1 h3
    · exact (oldN b f2 h4).1 h3
    · omega
    · exact hd2 k h3 h4
    · exact (hd1 k h4).2 h3
    · exact (oldN b f2 h4).2 h3
    · exact hd2 k h4 h3
    · omega
end

theorem OBB.weaken {w : World} {B B' : Nat} {v : Value} {ls : List (List UInt8)} {G : Nat → Prop} (h : OBB w B' v ls G) (hB : B ≤ B') : OBB w B v ls G := by
  obtain ⟨xs, h1, h2, h3, h4⟩ := h
  exact ⟨xs, owns_weaken h1 hB, h2, fun i hi hi2 => (h3 i hi hi2).weaken hB, h4⟩
/-- a journal as a thing -/
def JT (B q p : Nat) (J : Jr) : Thg B := ⟨fun w F => B ≤ q ∧ JAt w q p J ∧ F = fun k => k = q, fun {w F} h k hk => by obtain ⟨h1, h2, rfl⟩ := h; subst hk; exact ⟨h1, lt_of_block h2⟩,
  fun {G w w' F} h hm hF => by obtain ⟨h1, h2, rfl⟩ := h; exact ⟨h1, h2.mod hm (hF q rfl), rfl⟩⟩

theorem JInv.small {J : Jr} {D : Dsk} {ls : List (List UInt8)} (h : JInv J D ls) : J.size ≤ 4096 ∧ J.frm ≤ 4096 := by have := h.fit; have := h.wf.top; have := h.z; omega

section
variable {w0 w : World} {B q p : Nat} {Ts : List (Thg B)} {J : Jr} {D : Dsk} {ls : List (List UInt8)}

theorem Apart.jour (h : Apart w0 B Ts w) (i : Nat) (hi : Ts[i]? = some (JT B q p J)) : JAt w q p J := by
  obtain ⟨F, h1, h2, h3⟩ := h.get i hi
  exact h2
theorem Apart.jstart (h : Apart w0 B Ts w) (i : Nat) (hi : Ts[i]? = some (JT B q p J)) : Calls Try.prog 61 #[.pointer (some ⟨q, 0, none⟩)] w fun e w' => e = .returned (.int .i64 (J.start : Int)) ∧ w = w' := jstart_any (h.jour i hi)
theorem Apart.jnext (h : Apart w0 B Ts w) (i : Nat) (hi : Ts[i]? = some (JT B q p J)) : Calls Try.prog 57 #[.pointer (some ⟨q, 0, none⟩)] w fun e w' => e = .returned (.int .i64 (J.next : Int)) ∧ w = w' := jnext_any (h.jour i hi)
theorem Apart.jroom (h : Apart w0 B Ts w) (i : Nat) (hi : Ts[i]? = some (JT B q p J)) (hj : JInv J D ls) : Calls Try.prog 59 #[.pointer (some ⟨q, 0, none⟩)] w fun e w' => e = .returned (.int .i64 J.room) ∧ Apart w0 B Ts w' :=
  (jroom_any (h.jour i hi) hj.top hj.s3 hj.small.1 hj.s2).mono fun _ _ ⟨he, hm⟩ => ⟨he, h.still hm⟩
theorem Apart.jtrim (h : Apart w0 B Ts w) (i : Nat) (hi : Ts[i]? = some (JT B q p J)) (s : Int) : Calls Try.prog 60 #[.pointer (some ⟨q, 0, none⟩), .int .i64 s] w fun e w' => e = .returned (.int .i64 (J.whyTrim s)) ∧ Apart w0 B (Ts.set i (JT B q p (J.trim s))) w' := by
  obtain ⟨F, ⟨h1, h2, rfl⟩, hup⟩ := h.turn i hi
  exact (jtrim_any h2 s).mono fun _ _ ⟨he, hj, hm⟩ => ⟨he, hup _ _ ⟨hm, _, ⟨h1, hj, rfl⟩, fun k hk => .inl hk⟩⟩
theorem Apart.jsync (h : Apart w0 B Ts w) (i d : Nat) (hi : Ts[i]? = some (JT B q p J)) (hd : Ts[d]? = some (DiskT B p D)) (hid : i ≠ d) (hdd : J.dead = false) :
    Calls Try.prog 55 #[.pointer (some ⟨q, 0, none⟩)] w fun e w' => e = .returned (.int .i64 D.whySync) ∧ Apart w0 B ((Ts.set i (JT B q p { J with dead := D.whySync != 0 })).set d (DiskT B p D.sync)) w' := by
  obtain ⟨F, G, ⟨h1, h2, rfl⟩, h3, h4, hup⟩ := h.turn2 i d hi hd hid
  refine (jsync_any h2 h3 (h4 q rfl) hdd).mono fun e w' ⟨he, hj, hm, F', hd', hF'⟩ => ⟨he, hup _ _ _ _ _ (hm.mono (fun k _ e => e.symm)) ⟨h1, hj, rfl⟩ hd' (fun k hk e => ?_) (fun k hk => .inl hk) hF'⟩
  subst hk
  have := lt_of_block h2
  rcases hF' _ e with e | e
  · exact h4 _ rfl e
  · omega
theorem Apart.jsync_ok (h : Apart w0 B Ts w) (i d : Nat) (hi : Ts[i]? = some (JT B q p J)) (hd : Ts[d]? = some (DiskT B p D)) (hid : i ≠ d) (hj : JInv J D ls) :
    Calls Try.prog 55 #[.pointer (some ⟨q, 0, none⟩)] w fun e w' => e = .returned (.int .i64 0) ∧ Apart w0 B ((Ts.set i (JT B q p J)).set d (DiskT B p D.sync)) w' := by
  have e1 : D.whySync = 0 := by unfold Dsk.whySync; rw [if_neg (by rw [hj.fine.gone]; decide), if_neg (by rw [hj.fine.bad]; decide)]
  have e2 : ({ J with dead := (0 : Int) != 0 } : Jr) = J := by have := hj.live; cases J; simp only at this ⊢; rw [this]; rfl
  have := h.jsync i d hi hd hid hj.live
  rw [e1, e2] at this
  exact this
theorem Apart.jappend (h : Apart w0 B Ts w) (i d : Nat) (hi : Ts[i]? = some (JT B q p J)) (hd : Ts[d]? = some (DiskT B p D)) (hid : i ≠ d) (hj : JInv J D ls) (hlim : D.l.length ≤ 1000000) (a : Option Addr) (b : List UInt8) (n cap : Nat) (hn : b.length = n) (hb : BytesAt w a b) (ha : a = none → cap = 0) :
    Calls Try.prog 54 #[.pointer (some ⟨q, 0, none⟩), .slice a n cap] w fun e w' => e = .returned (.int .i64 (J.whyApp b)) ∧ Apart w0 B ((Ts.set i (JT B q p (J.app b))).set d (DiskT B p (J.appD D b))) w' := by
  obtain ⟨F, G, ⟨h1, h2, rfl⟩, h3, h4, hup⟩ := h.turn2 i d hi hd hid
  by_cases hw : J.whyApp b = 0
  · subst hn
    refine (append_ok h2 h3 (h4 q rfl) hj.fine.full hj.fine.gone hlim hj.z hj.fit hj.s1 hj.s2 hj.top a b cap hb ha hw).mono fun e w' ⟨he, hj', hm, F', hd', hF'⟩ => ⟨by rw [he, hw], hup _ _ _ _ _ (hm.mono (fun k _ e => e.symm)) ⟨h1, hj', rfl⟩ hd' (fun k hk e => ?_) (fun k hk => .inl hk) hF'⟩
    subst hk
    have := lt_of_block h2
    rcases hF' _ e with e | e
    · exact h4 _ rfl e
    · omega
  · have e1 : J.app b = J := by unfold Jr.app; rw [if_neg hw]
    have e2 : J.appD D b = D := by unfold Jr.appD; rw [if_neg hw]
    rw [e1, e2]
    refine (append_no h2 hj.small.1 hj.s2 hj.s3 hj.top a n cap b hn hw).mono fun _ _ ⟨he, hm⟩ => ⟨he, hup _ _ _ _ _ (hm.mono (fun _ _ e => e.elim)) ⟨h1, h2.mod hm id, rfl⟩ (h3.mod hm (fun _ _ => id)) (fun k hk => h4 k hk) (fun k hk => .inl hk) (fun k hk => .inl hk)⟩
theorem Apart.jopen (h : Apart w0 B Ts w) (d : Nat) (hd : Ts[d]? = some (DiskT B p D)) (hfine : D.fine) (frm size next : Nat) (hf : frm ≤ D.N) (hz : 2 ≤ size) (hz2 : size ≤ D.N - frm) (hn1 : 1 ≤ next) (hn2 : next ≤ 1152921504606846976) (hlim : D.l.length ≤ 1000000) :
    Calls Try.prog 53 #[.pointer (some ⟨p, 0, none⟩), .int .i64 (frm : Int), .int .i64 (size : Int), .int .i64 (next : Int)] w fun e w' =>
      ∃ q v, e = .returned (.tuple #[.pointer (some ⟨q, 0, none⟩), v, .int .i64 0]) ∧ Apart w0 B (Ts.set d (DiskT B p ((Jr.opened frm size next D).scrub D)) ++ [JT B q p (Jr.opened frm size next D), BBT B v (openRecs frm size next D)]) w' := by
  obtain ⟨G, h1, hup⟩ := h.turnNew2 d hd
  refine (open_ok h1 hfine frm size next hf hz hz2 hn1 hn2 hlim).mono ?_
  rintro e w' ⟨q, v, G', F', he, hj, hv, hm, hd', hF', hq, hqF, hqG, hGF⟩
  refine ⟨q, v, he, hup _ _ _ _ _ _ _ hm hd' ⟨Nat.le_trans h.le hq, hj, rfl⟩ (OBB.weaken hv h.le) hF' (fun k hk => by subst hk; exact hq) (fun k hk => (hv.lt k hk).1) (fun k hk => ⟨fun e => by subst e; exact hqF hk, fun e => hGF k e hk⟩) (fun k hk e => by subst hk; exact hqG e)⟩
end
end Go.Proofs.Ytdinnkacilgmmaa
