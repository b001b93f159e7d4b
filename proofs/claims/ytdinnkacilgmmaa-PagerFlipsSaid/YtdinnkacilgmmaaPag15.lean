/- The pager beside other things: its calls, said of things that lie apart. -/
import Derived.Test.YtdinnkacilgmmaaPag14
namespace Go.Proofs.Ytdinnkacilgmmaa
open Go.RowKit

theorem PgV.weaken {w : World} {B B' q p : Nat} {vm : Value} {P : Pgr} (h : PgV w B' q p vm P) (hB : B ≤ B') : PgV w B q p vm P := ⟨h.at_, Nat.le_trans hB h.hq, h.mt.weaken hB, h.len⟩
/-- a pager as a thing -/
def PT (B q p : Nat) (P : Pgr) : Thg B := ⟨fun w F => ∃ vm, PgV w B q p vm P ∧ F = fun k => k = q ∨ vm.ownBlock = some k,
  fun {w F} h k hk => by
    obtain ⟨vm, h1, rfl⟩ := h
    rcases hk with rfl | hk
    · exact ⟨h1.hq, lt_of_block h1.at_⟩
    · exact World.ownsRow.lt h1.mt k hk,
  fun {G w w' F} h hm hF => by
    obtain ⟨vm, h1, rfl⟩ := h
    exact ⟨vm, h1.mod hm (fun k hk => hF k (hk.imp id Eq.symm)), rfl⟩⟩
/-- numbers that are owned, as a thing -/
def IntsT (B : Nat) (v : Value) (l : List Int) : Thg B :=
  ⟨fun w F => w.ownsRow B 3 1 v l.length (l.map fun n => .int .i64 n) ∧ F = fun k => v.ownBlock = some k, fun {w F} h k hk => by obtain ⟨h, rfl⟩ := h; exact World.ownsRow.lt h k hk,
    fun {G w w' F} h hm hF => by obtain ⟨h, rfl⟩ := h; exact ⟨owns_mod h hm hF, rfl⟩⟩
theorem ownsInts_at {w : World} {B : Nat} {v : Value} {l : List Int} (h : w.ownsRow B 3 1 v l.length (l.map fun n => .int .i64 n)) :
    ∃ a cap, v = .slice a l.length cap ∧ l.length ≤ cap ∧ IntsAt w a l ∧ (∀ x, a = some x → l ≠ [] → v.ownBlock = some x.block) := by
  rcases h.2 with ⟨rfl, e⟩ | ⟨g, cap, cur, rfl, -, hg, hle, -, -, hrow⟩
  · have : l = [] := List.eq_nil_of_length_eq_zero e
    subst this
    exact ⟨none, 0, rfl, Nat.le_refl _, fun h => absurd rfl h, fun x hx => by cases hx⟩
  · refine ⟨_, cap, rfl, hle, fun _ => ⟨g, 0, rfl, fun j hj => ?_⟩, fun x hx _ => by cases hx; rfl⟩
    rw [cell_of_row w g (0 + j) cur 3 (0, 0) hg, Nat.zero_add]
    have h8 := congrArg (fun x => x[j]?) hrow
    simp only [List.getElem?_take, Nat.mul_one, hj, if_true, List.getElem?_map, List.getElem?_eq_getElem hj, Option.map_some] at h8
    rw [← Array.getElem?_toList, h8]

section
variable {w0 w : World} {B : Nat} {Ts : List (Thg B)}

/-- two of them turned, and where the others lie -/
theorem Apart.turn2w (h : Apart w0 B Ts w) (i j : Nat) {S T : Thg B} (hi : Ts[i]? = some S) (hj : Ts[j]? = some T) (hij : i ≠ j) :
    ∃ Fs : Nat → Nat → Prop, (∀ (n : Nat) (U : Thg B), Ts[n]? = some U → U.at_ w (Fs n)) ∧ (∀ a b, a < Ts.length → b < Ts.length → a ≠ b → ∀ k, Fs a k → ¬ Fs b k) ∧
      ∀ (S' T' : Thg B) (w' : World) (F' G' : Nat → Prop), Mod (fun k => Fs i k ∨ Fs j k) w w' → S'.at_ w' F' → T'.at_ w' G' → (∀ k, F' k → ¬ G' k) → (∀ k, F' k → Fs i k ∨ w.heap.size ≤ k) → (∀ k, G' k → Fs j k ∨ w.heap.size ≤ k) →
      Apart w0 B ((Ts.set i S').set j T') w' := by
  obtain ⟨Fs, h1, h2⟩ := h.own
  have hil : i < Ts.length := (List.getElem?_eq_some_iff.1 hi).1
  have hjl : j < Ts.length := (List.getElem?_eq_some_iff.1 hj).1
  have hS := h1 i S hi
  have hT := h1 j T hj
  have lt : ∀ n k, n < Ts.length → Fs n k → k < w.heap.size := fun n k hn hk => ((Ts[n]).lt (h1 n _ (List.getElem?_eq_getElem hn)) k hk).2
  refine ⟨Fs, h1, h2, fun S' T' w' F' G' hm hS' hT' hd hF hG => ⟨h.bel.trans (hm.below (fun k hk => hk.elim (fun e => (S.lt hS k e).1) (fun e => (T.lt hT k e).1)) h.le), Nat.le_trans h.le hm.size, fun n => if n = j then G' else if n = i then F' else Fs n, ?_, ?_⟩⟩
  · intro n U hn
    by_cases ej : n = j
    · subst ej
      simp only [if_true]
      rw [List.getElem?_set_self (by rw [List.length_set]; exact hjl)] at hn
      cases hn
      exact hT'
    · simp only [if_neg ej]
      rw [List.getElem?_set_ne (Ne.symm ej)] at hn
      by_cases ei : n = i
      · subst ei
        simp only [if_true]
        rw [List.getElem?_set_self hil] at hn
        cases hn
        exact hS'
      · simp only [if_neg ei]
        rw [List.getElem?_set_ne (Ne.symm ei)] at hn
        have hnl : n < Ts.length := (List.getElem?_eq_some_iff.1 hn).1
        exact U.mod (h1 n U hn) hm (fun k hk e => e.elim (h2 n i hnl hil ei k hk) (h2 n j hnl hjl ej k hk))
  · intro a b ha hb hab k hk hk'
    rw [List.length_set, List.length_set] at ha hb
    have old : ∀ n, n < Ts.length → n ≠ i → n ≠ j → Fs n k → ¬ F' k ∧ ¬ G' k := fun n hn e1 e2 hk => by
      have := lt n k hn hk
      refine ⟨fun e => ?_, fun e => ?_⟩
      · rcases hF k e with e | e
        · exact h2 n i hn hil e1 k hk e
        · omega
      · rcases hG k e with e | e
        · exact h2 n j hn hjl e2 k hk e
        · omega
    by_cases ea : a = j
    · rw [if_pos ea] at hk
      by_cases eb : b = i
      · rw [if_neg (by omega), if_pos eb] at hk'
        exact hd k hk' hk
      · rw [if_neg (by omega), if_neg eb] at hk'
        exact (old b hb eb (by omega) hk').2 hk
    · rw [if_neg ea] at hk
      by_cases ea2 : a = i
      · rw [if_pos ea2] at hk
        by_cases eb : b = j
        · rw [if_pos eb] at hk'
          exact hd k hk hk'
        · rw [if_neg eb, if_neg (by omega)] at hk'
          exact (old b hb (by omega) eb hk').1 hk
      · rw [if_neg ea2] at hk
        have ho := old a ha ea2 ea hk
        by_cases eb : b = j
        · rw [if_pos eb] at hk'
          exact ho.2 hk'
        · rw [if_neg eb] at hk'
          by_cases eb2 : b = i
          · rw [if_pos eb2] at hk'
            exact ho.1 hk'
          · rw [if_neg eb2] at hk'
            exact h2 a b ha hb hab k hk hk'
theorem set_same {α : Type} {Ts : List α} {i : Nat} {T : α} (h : Ts[i]? = some T) : Ts.set i T = Ts := by
  obtain ⟨hl, e⟩ := List.getElem?_eq_some_iff.1 h
  rw [← e]
  exact List.set_getElem_self hl
end

section
variable {w0 w : World} {B q p : Nat} {Ts : List (Thg B)} {P : Pgr} {D : Dsk}

theorem Apart.pager (h : Apart w0 B Ts w) (i : Nat) (hi : Ts[i]? = some (PT B q p P)) : ∃ vm, PgV w B q p vm P := by
  obtain ⟨F, vm, h1, -⟩ := h.get i hi
  exact ⟨vm, h1⟩
theorem Apart.popen (h : Apart w0 B Ts w) (d : Nat) (hd : Ts[d]? = some (DiskT B p D)) (frm size : Nat) (hf : frm ≤ D.N) (hs3 : 3 ≤ size) (hsz : size ≤ D.N - frm) :
    Calls Try.prog 65 #[.pointer (some ⟨p, 0, none⟩), .int .i64 (frm : Int), .int .i64 (size : Int)] w fun e w' => ∃ q vr, e = .returned (.tuple #[.pointer (some ⟨q, 0, none⟩), rootV (Pgr.opened frm size D).root vr, .int .i64 0]) ∧
      Apart w0 B (Ts ++ [PT B q p (Pgr.opened frm size D), BytesT B vr (Pgr.opened frm size D).root.mt]) w' := by
  obtain ⟨G, h1, hup⟩ := h.turnNew2 d hd
  refine (popen_ok h1 frm size hf hs3 hsz).mono ?_
  rintro e w' ⟨q, vr, vm, he, hp, ho, hm, hq, hv⟩
  refine ⟨q, vr, he, ?_⟩
  have := hup (DiskT B p D) (PT B q p (Pgr.opened frm size D)) (BytesT B vr (Pgr.opened frm size D).root.mt) w' G _ _ (hm.mono (fun _ _ e => e.elim)) (DiskAt.mod h1 hm (fun _ _ => id)) ⟨vm, hp.weaken h.le, rfl⟩ ⟨ho.weaken h.le, rfl⟩
    (fun k hk => .inl hk) (fun k hk => hk.elim (fun e => e ▸ hp.hq) (fun e => (World.ownsRow.lt hp.mt k e).1)) (fun k hk => (World.ownsRow.lt ho k hk).1)
    (fun k hk => ⟨fun e => by
      have := (DiskAt.lt h1 k hk).2
      rcases e with e | e
      · have := hp.hq; omega
      · have := (World.ownsRow.lt hp.mt k e).1; omega, fun e => by
      have := (DiskAt.lt h1 k hk).2
      have := (World.ownsRow.lt ho k e).1
      omega⟩)
    (fun k hk e => by
      rcases hk with rfl | hk
      · exact hq e
      · exact hv k hk e)
  rwa [set_same hd] at this

theorem Apart.pdead (h : Apart w0 B Ts w) (i : Nat) (hi : Ts[i]? = some (PT B q p P)) : Calls Try.prog 72 #[.pointer (some ⟨q, 0, none⟩)] w fun e w' => e = .returned (.bool P.dead) ∧ w = w' := by
  obtain ⟨vm, hp⟩ := h.pager i hi
  exact pdead_any hp
theorem Apart.pfree (h : Apart w0 B Ts w) (i : Nat) (hi : Ts[i]? = some (PT B q p P)) (hpg : P.pages ≤ 4096) : Calls Try.prog 76 #[.pointer (some ⟨q, 0, none⟩)] w fun e w' => e = .returned (.int .i64 (P.empties.length : Int)) ∧ Apart w0 B Ts w' := by
  obtain ⟨vm, hp⟩ := h.pager i hi
  exact (pfree_any hp hpg).mono fun e w' ⟨he, hm⟩ => ⟨he, h.still hm⟩
theorem Apart.proot (h : Apart w0 B Ts w) (i : Nat) (hi : Ts[i]? = some (PT B q p P)) (hm : P.root.mt.length ≤ 100) : Calls Try.prog 71 #[.pointer (some ⟨q, 0, none⟩)] w fun e w' =>
    ∃ v, e = .returned (rootV P.root v) ∧ Apart w0 B (Ts ++ [BytesT B v P.root.mt]) w' := by
  obtain ⟨vm, hp⟩ := h.pager i hi
  exact (proot_any hp hm).mono fun e w' ⟨v, he, ho, hm⟩ => ⟨v, he, h.made h.le ho hm (fun k hk => (World.ownsRow.lt ho k hk).1)⟩
theorem Apart.pread (h : Apart w0 B Ts w) (i d : Nat) (hi : Ts[i]? = some (PT B q p P)) (hd : Ts[d]? = some (DiskT B p D)) (hfit : P.frm + 2 + P.pages ≤ D.N) (n : Int) :
    Calls Try.prog 67 #[.pointer (some ⟨q, 0, none⟩), .int .i64 n] w fun e w' => ∃ v, e = .returned (.tuple #[v, .int .i64 (P.read D n).2]) ∧ ViewAt w' w.heap.size v (P.read D n).1 ∧ Mod (fun _ => False) w w' := by
  obtain ⟨vm, hp⟩ := h.pager i hi
  obtain ⟨F, hD⟩ := h.disk d hd
  exact pread_any hp hD hfit n
theorem Apart.prelease (h : Apart w0 B Ts w) (i : Nat) (hi : Ts[i]? = some (PT B q p P)) (hpg : P.pages ≤ 4096) (n : Int) :
    Calls Try.prog 69 #[.pointer (some ⟨q, 0, none⟩), .int .i64 n] w fun e w' => e = .returned (.int .i64 (P.whyRelease n)) ∧ Apart w0 B (Ts.set i (PT B q p (P.release n))) w' := by
  obtain ⟨F, ⟨vm, hp, rfl⟩, hup⟩ := h.turn i hi
  exact (prelease_any hp hpg n).mono fun e w' ⟨he, hp', hm⟩ => ⟨he, hup _ _ ⟨hm.mono (fun k _ e => .inl e), _, ⟨vm, hp', rfl⟩, fun k hk => .inl hk⟩⟩
theorem Apart.puse (h : Apart w0 B Ts w) (i : Nat) (hi : Ts[i]? = some (PT B q p P)) (hpg : P.pages ≤ 4096) (a : Option Addr) (l : List Int) (n cap : Nat) (hn : l.length = n) (hll : l.length ≤ 140737488355328) (hl : IntsAt w a l) (hla : ∀ x, a = some x → l ≠ [] → x.block < B) :
    Calls Try.prog 78 #[.pointer (some ⟨q, 0, none⟩), .slice a n cap] w fun e w' => e = .returned (.int .i64 (P.whyUse l)) ∧ Apart w0 B (Ts.set i (PT B q p (P.use l))) w' := by
  obtain ⟨F, ⟨vm, hp, rfl⟩, hup⟩ := h.turn i hi
  exact (puse_any hp hpg a l n cap hn hll hl (fun x hx hne e => by have := hla x hx hne; have := hp.hq; omega)).mono fun e w' ⟨he, hp', hm⟩ => ⟨he, hup _ _ ⟨hm.mono (fun k _ e => .inl e), _, ⟨vm, hp', rfl⟩, fun k hk => .inl hk⟩⟩

theorem Apart.pwrite (h : Apart w0 B Ts w) (i d : Nat) (hi : Ts[i]? = some (PT B q p P)) (hd : Ts[d]? = some (DiskT B p D)) (hid : i ≠ d) (hwf : P.wf D) (hlim : D.l.length + 1 ≤ 1048576) (a : Option Addr) (b : List UInt8) (n cap : Nat) (hn : b.length = n) (hb : BytesAt w a b) :
    Calls Try.prog 66 #[.pointer (some ⟨q, 0, none⟩), .slice a n cap] w fun e w' => e = .returned (.tuple #[.int .i64 (P.write D b).1, .int .i64 (P.write D b).2.1]) ∧ Apart w0 B ((Ts.set i (PT B q p (P.write D b).2.2.1)).set d (DiskT B p (P.write D b).2.2.2)) w' := by
  obtain ⟨F, G, ⟨vm, hp, rfl⟩, hD, hFG, hup⟩ := h.turn2 i d hi hd hid
  have hqG : ¬ G q := hFG q (.inl rfl)
  have hmG : ∀ k, vm.ownBlock = some k → ¬ G k := fun k hk => hFG k (.inr hk)
  have key : Calls Try.prog 66 #[.pointer (some ⟨q, 0, none⟩), .slice a n cap] w (WSaid w B B q p vm G (P.write D b)) := by
    unfold Pgr.write
    by_cases hdd : P.dead = true
    · have := pwrite_no hp hD a b n cap hn (.inl hdd)
      rw [if_pos hdd] at this
      rwa [if_pos hdd]
    rw [if_neg hdd]
    by_cases hl : 252 < b.length
    · have := pwrite_no hp hD a b n cap hn (.inr hl)
      rw [if_neg hdd] at this
      rwa [if_pos hl]
    rw [if_neg hl]
    exact pwrite_main hp hD hwf hqG hmG a b n cap hn hb hlim (by simpa using hdd) (by omega)
  refine key.mono ?_
  rintro e w' ⟨he, hp', ⟨G', hD', hG'⟩, hm⟩
  refine ⟨he, hup _ _ _ _ _ (hm.mono (fun k _ e => e.imp .inl id)) ⟨vm, hp', rfl⟩ hD' (fun k hk e => ?_) (fun k hk => .inl hk) hG'⟩
  rcases hG' k e with e | e
  · exact hFG k hk e
  · rcases hk with rfl | hk
    · have := lt_of_block hp.at_; omega
    · have := (World.ownsRow.lt hp.mt k hk).2; omega

theorem FSaid.up {vm : Value} {Fs : Nat → Nat → Prop} {i d : Nat} {e : Ending} {w' : World} {o : Int × Pgr × Dsk} (hFi : Fs i = fun k => k = q ∨ vm.ownBlock = some k) (hp : PgV w B q p vm P) (hqG : ¬ Fs d q)
    (hup : ∀ (S' T' : Thg B) (w' : World) (F' G' : Nat → Prop), Mod (fun k => Fs i k ∨ Fs d k) w w' → S'.at_ w' F' → T'.at_ w' G' → (∀ k, F' k → ¬ G' k) → (∀ k, F' k → Fs i k ∨ w.heap.size ≤ k) → (∀ k, G' k → Fs d k ∨ w.heap.size ≤ k) → Apart w0 B ((Ts.set i S').set d T') w')
    (h : FSaid w B B q p vm (Fs d) o e w') : e = .returned (.int .i64 o.1) ∧ Apart w0 B ((Ts.set i (PT B q p o.2.1)).set d (DiskT B p o.2.2)) w' := by
  obtain ⟨he, vm', G', hp', hD', hG', hv', hm⟩ := h
  refine ⟨he, hup _ _ _ _ _ (hm.mono (fun k _ e => ?_)) ⟨vm', hp', rfl⟩ hD' (fun k hk e => ?_) (fun k hk => ?_) hG'⟩
  · rw [hFi]
    exact e.imp .inl id
  · rcases hk with rfl | hk
    · rcases hG' _ e with e | e
      · exact hqG e
      · have := lt_of_block hp.at_; omega
    · exact (hv' k hk).2 e
  · rw [hFi]
    rcases hk with rfl | hk
    · exact .inl (.inl rfl)
    · exact (hv' k hk).1.imp .inr id

/-- Flip with pages below the mark -/
theorem Apart.pflip (h : Apart w0 B Ts w) (i d : Nat) (hi : Ts[i]? = some (PT B q p P)) (hd : Ts[d]? = some (DiskT B p D)) (hid : i ≠ d) (hwf : P.wf D) (hlim : D.l.length + 1 ≤ 1048576) (hgen : P.root.gen + 1 < 4611686018427387904)
    (page next : Int) (am : Option Addr) (b : List UInt8) (nm cm : Nat) (hnm : b.length = nm) (hbl : b.length ≤ 140737488355328) (ham : am = none → cm = 0) (hb : BytesAt w am b)
    (a : Option Addr) (l : List Int) (n cap : Nat) (hn : l.length = n) (hll : l.length ≤ 140737488355328) (hl : IntsAt w a l) (hla : ∀ x, a = some x → l ≠ [] → x.block < B) :
    Calls Try.prog 68 #[.pointer (some ⟨q, 0, none⟩), .int .i64 page, .int .i64 next, .slice am nm cm, .slice a n cap] w fun e w' => e = .returned (.int .i64 (P.flip D page next b l).1) ∧ Apart w0 B ((Ts.set i (PT B q p (P.flip D page next b l).2.1)).set d (DiskT B p (P.flip D page next b l).2.2)) w' := by
  obtain ⟨Fs, h1, h2, hup⟩ := h.turn2w i d hi hd hid
  obtain ⟨vm, hp, hFi⟩ := h1 i _ hi
  have hD := h1 d _ hd
  have hil : i < Ts.length := (List.getElem?_eq_some_iff.1 hi).1
  have hdl : d < Ts.length := (List.getElem?_eq_some_iff.1 hd).1
  have hqG : ¬ Fs d q := h2 i d hil hdl hid q (by rw [hFi]; exact .inl rfl)
  have hmG : ∀ k, vm.ownBlock = some k → ¬ Fs d k := fun k hk => h2 i d hil hdl hid k (by rw [hFi]; exact .inr hk)
  exact (pflip_any hp hD hwf hqG hmG page next am b nm cm hnm hbl ham hb a l n cap hn hll hl (fun x hx hne => ⟨fun e => by have := hla x hx hne; have := hp.hq; omega, fun e => by have := hla x hx hne; have := (DiskAt.lt hD _ e).1; omega⟩) hlim hgen).mono fun e w' hf => FSaid.up hFi hp hqG hup hf
/-- Flip with pages of a thing -/
theorem Apart.pflipT (h : Apart w0 B Ts w) (i d j : Nat) (hi : Ts[i]? = some (PT B q p P)) (hd : Ts[d]? = some (DiskT B p D)) (hid : i ≠ d) (hwf : P.wf D) (hlim : D.l.length + 1 ≤ 1048576) (hgen : P.root.gen + 1 < 4611686018427387904)
    (page next : Int) (am : Option Addr) (b : List UInt8) (nm cm : Nat) (hnm : b.length = nm) (hbl : b.length ≤ 140737488355328) (ham : am = none → cm = 0) (hb : BytesAt w am b)
    (a : Option Addr) (l : List Int) (n cap : Nat) (hn : l.length = n) (hll : l.length ≤ 140737488355328) (hj : Ts[j]? = some (IntsT B (.slice a n cap) l)) (hji : j ≠ i) (hjd : j ≠ d) :
    Calls Try.prog 68 #[.pointer (some ⟨q, 0, none⟩), .int .i64 page, .int .i64 next, .slice am nm cm, .slice a n cap] w fun e w' => e = .returned (.int .i64 (P.flip D page next b l).1) ∧ Apart w0 B ((Ts.set i (PT B q p (P.flip D page next b l).2.1)).set d (DiskT B p (P.flip D page next b l).2.2)) w' := by
  obtain ⟨Fs, h1, h2, hup⟩ := h.turn2w i d hi hd hid
  obtain ⟨vm, hp, hFi⟩ := h1 i _ hi
  have hD := h1 d _ hd
  obtain ⟨hown, hFj⟩ := h1 j _ hj
  have hil : i < Ts.length := (List.getElem?_eq_some_iff.1 hi).1
  have hdl : d < Ts.length := (List.getElem?_eq_some_iff.1 hd).1
  have hjl : j < Ts.length := (List.getElem?_eq_some_iff.1 hj).1
  have hqG : ¬ Fs d q := h2 i d hil hdl hid q (by rw [hFi]; exact .inl rfl)
  have hmG : ∀ k, vm.ownBlock = some k → ¬ Fs d k := fun k hk => h2 i d hil hdl hid k (by rw [hFi]; exact .inr hk)
  obtain ⟨a', cap', e, -, hl, hbk⟩ := ownsInts_at hown
  cases e
  refine (pflip_any hp hD hwf hqG hmG page next am b nm cm hnm hbl ham hb a l _ cap rfl hll hl (fun x hx hne => ?_) hlim hgen).mono fun e w' hf => FSaid.up hFi hp hqG hup hf
  have hb := hbk x hx hne
  have hfx : Fs j x.block := by rw [hFj]; exact hb
  exact ⟨fun e => h2 j i hjl hil hji _ hfx (by rw [hFi]; exact .inl e), h2 j d hjl hdl hjd _ hfx⟩
end
end Go.Proofs.Ytdinnkacilgmmaa
