/- JournalLasts: the calls that its walk meets. -/
import Derived.Test.YtdinnkacilgmmaaLast1
import Derived.Test.YtdinnkacilgmmaaRJour3
import Derived.Test.YtdinnkacilgmmaaRowsC
namespace Go.Proofs.Ytdinnkacilgmmaa
open Go.RowKit

theorem RdBB.take {w : World} {a : Option Addr} {ls : List (List UInt8)} (h : RdBB w a ls) (n : Nat) : RdBB w a (ls.take n) := by
  obtain ⟨xs, h1, h2, h3⟩ := h
  refine ⟨xs.take n, by simp [h1], fun hne => ?_, fun i hi hi2 => ?_⟩
  · obtain ⟨b, off, e, hc⟩ := h2 (by intro e; rw [e] at hne; simp at hne)
    exact ⟨b, off, e, fun j hj => by rw [List.getElem_take]; exact hc j (by simp at hj; omega)⟩
  · rw [List.getElem_take, List.getElem_take]
    exact h3 i (by simp at hi; omega) (by simp at hi2; omega)

/-- some bool is returned -/
def Tells (e : Ending) : Prop := ∃ r, e = .returned (.bool r)

set_option maxRecDepth 100000 in
theorem ahead_any (w : World) (a b : Option Addr) (ls ms : List (List UInt8)) (n m ca cb : Nat) (hn : ls.length = n) (hm : ms.length = m) (hmax : ls.length ≤ 140737488351232) (hmax2 : ms.length ≤ cb) (ha : RdBB w a ls) (hb : RdBB w b ms) :
    Calls Try.prog 63 #[.slice a n ca, .slice b m cb] w fun e w' => Tells e ∧ Mod (fun _ => False) w w' := by
  subst hn hm
  by_cases hle : (ls.length : Int) ≤ (ms.length : Int)
  · have hk := sameall_any w a b ls (ms.take ls.length) ls.length ls.length ca cb rfl (by rw [List.length_take]; omega) hmax ha (hb.take _)
    have hcb2 : (ls.length : Int) ≤ (cb : Int) := by omega
    have HK := Lib.hid hk
    clear hk
    go_enter Try.func63, Try.ntmps63
    go_wp2_with fail
    refine HK.out.mono ?_
    rintro e w2 ⟨rfl, m2⟩
    go_wp2
    go_ret
    exact ⟨⟨_, rfl⟩, m2⟩
  · go_enter Try.func63, Try.ntmps63
    go_wp2
    go_ret
    exact ⟨⟨_, rfl⟩, Mod.refl _ _⟩

section
variable {w0 w : World} {B p q : Nat} {Ts : List (Thg B)} {J : Jr} {D : Dsk} {all : List (List UInt8)} {sure : Nat}

set_option maxHeartbeats 2000000 in
set_option maxRecDepth 100000 in
theorem Apart.chance (h : Apart w0 B Ts w) (d : Nat) (hd : Ts[d]? = some (DiskT B p D)) (hI : LastI J D all sure) (hl : D.l = []) (a : Option Addr) (c n : Nat) (hn : all.length = n) (hmax : all.length ≤ 100) (ha : RdBB w a all) :
    Calls Try.prog 64 #[.pointer (some ⟨p, 0, none⟩), .slice a n c] w fun e w' => e = .returned (.bool true) ∧ Mod (fun _ => False) w w' := by
  subst hn
  obtain ⟨F, hD⟩ := h.disk d hd
  obtain ⟨r1, r2, r3, r4⟩ := hI.image hl
  have hlen := hI.len
  have him : imageOk D.safe.length := by rw [hlen]; decide
  have KI := hD.image w.heap.size (Nat.le_refl _)
  have KI2 := Lib.hid KI
  have R3 := Lib.hid r3
  have R4 := Lib.hid r4
  have R2 := Lib.hid r2
  have HA := Lib.hid ha
  clear KI hI hD r3 r4 r2 ha
  go_enter Try.func64, Try.ntmps64
  go_wp2_with fail
  refine KI2.out.mono ?_
  rintro e w2 ⟨v, rfl, ho, m2, -⟩
  obtain ⟨av, cv, ev, hcv, -, hbv⟩ := ho.shape
  have hload := rload_ok (B := w.heap.size) m2.size av D.safe cv hbv hcv him
  rw [hlen] at hload ev
  subst ev
  have HL := Lib.hid hload
  clear hload hcv hbv
  go_wp2_with fail
  refine HL.out.mono ?_
  rintro e w3 ⟨v3, rfl, hborn⟩
  obtain ⟨p3, F3, rfl, hr3, m3, -⟩ := hborn
  have hop := ropen_clean hr3 0 12 1 (by omega) (by decide) (by have := R2.out; omega) (by decide) (by decide) (by show 0 ≤ _; decide) R4.out
  have HOP := Lib.hid hop
  clear hop
  go_wp2_with fail
  refine HOP.out.mono ?_
  rintro e w4 ⟨q4, v4, rfl, hg, m4⟩
  rw [R3.out] at hg
  obtain ⟨a4, c4, rfl, hrd⟩ := hg.rd
  have mm := (m2.trans' m3).trans' m4
  have hsm := sameall_any w4 a a4 all all _ _ c c4 rfl rfl (by omega) (HA.out.still mm) hrd
  rw [decide_eq_true rfl] at hsm
  have HSM := Lib.hid hsm
  clear hsm
  go_wp2_with fail
  refine HSM.out.mono ?_
  rintro e w5 ⟨rfl, m5⟩
  go_wp2
  go_ret
  exact ⟨rfl, mm.trans' m5⟩

/-- Append, where the journal may be dead -/
theorem Apart.jappendW (h : Apart w0 B Ts w) (i d : Nat) (hi : Ts[i]? = some (JT B q p J)) (hd : Ts[d]? = some (DiskT B p D)) (hid : i ≠ d) (hj : LastI J D all sure) (hlim : D.l.length ≤ 1000000) (a : Option Addr) (b : List UInt8) (n cap : Nat) (hn : b.length = n) (hb : BytesAt w a b) (ha : a = none → cap = 0) :
    Calls Try.prog 54 #[.pointer (some ⟨q, 0, none⟩), .slice a n cap] w fun e w' => e = .returned (.int .i64 (J.whyApp b)) ∧ Apart w0 B ((Ts.set i (JT B q p (J.app b))).set d (DiskT B p (J.appD D b))) w' := by
  obtain ⟨F, G, ⟨h1, h2, rfl⟩, h3, h4, hup⟩ := h.turn2 i d hi hd hid
  have z1 := hj.frm
  have z2 := hj.size
  have z3 := hj.start
  have z4 := hj.next
  have z5 := hj.pos
  have z6 := hj.N
  by_cases hw : J.whyApp b = 0
  · subst hn
    have hdd : J.dead = false := by
      unfold Jr.whyApp at hw
      split at hw
      · cases hw
      · rename_i h; simpa using h
    refine (append_ok h2 h3 (h4 q rfl) hj.full (by rw [← hj.dead]; exact hdd) hlim (by omega) (by omega) (by omega) (by omega) (by omega) a b cap hb ha hw).mono fun e w' ⟨he, hj', hm, F', hd', hF'⟩ => ⟨by rw [he, hw], hup _ _ _ _ _ (hm.mono (fun k _ e => e.symm)) ⟨h1, hj', rfl⟩ hd' (fun k hk e => ?_) (fun k hk => .inl hk) hF'⟩
    subst hk
    have := lt_of_block h2
    rcases hF' _ e with e | e
    · exact h4 _ rfl e
    · omega
  · have e1 : J.app b = J := by unfold Jr.app; rw [if_neg hw]
    have e2 : J.appD D b = D := by unfold Jr.appD; rw [if_neg hw]
    rw [e1, e2]
    refine (append_no h2 (by omega) (by omega) (by omega) (by omega) a n cap b hn hw).mono fun _ _ ⟨he, hm⟩ => ⟨he, hup _ _ _ _ _ (hm.mono (fun _ _ e => e.elim)) ⟨h1, h2.mod hm id, rfl⟩ (h3.mod hm (fun _ _ => id)) (fun k hk => h4 k hk) (fun k hk => .inl hk) (fun k hk => .inl hk)⟩

/-- Sync -/
theorem Apart.jsyncW (h : Apart w0 B Ts w) (i d : Nat) (hi : Ts[i]? = some (JT B q p J)) (hd : Ts[d]? = some (DiskT B p D)) (hid : i ≠ d) (hj : LastI J D all sure) (_hlen : D.l.length ≤ 100000) :
    Calls Try.prog 55 #[.pointer (some ⟨q, 0, none⟩)] w fun e w' => ∃ c J' D' sure', e = .returned (.int .i64 c) ∧ LastI J' D' all sure' ∧ (sure' = if c = 0 then all.length else sure) ∧ D'.l.length ≤ D.l.length ∧ Apart w0 B ((Ts.set i (JT B q p J')).set d (DiskT B p D')) w' := by
  cases hdd : J.dead with
  | true =>
    refine (jsync_dead (h.jour i hi) hdd).mono ?_
    rintro e w' ⟨rfl, rfl⟩
    refine ⟨21, J, D, sure, rfl, hj, by rw [if_neg (by decide)], Nat.le_refl _, ?_⟩
    have e1 : Ts.set i (JT B q p J) = Ts := by obtain ⟨hl, e⟩ := List.getElem?_eq_some_iff.1 hi; rw [← e]; exact List.set_getElem_self hl
    have e2 : Ts.set d (DiskT B p D) = Ts := by obtain ⟨hl, e⟩ := List.getElem?_eq_some_iff.1 hd; rw [← e]; exact List.set_getElem_self hl
    rw [e1, e2]
    exact h
  | false =>
    refine (h.jsync i d hi hd hid hdd).mono ?_
    rintro e w' ⟨rfl, L⟩
    refine ⟨_, _, _, _, rfl, hj.sync hdd, rfl, ?_, L⟩
    unfold Dsk.sync
    split
    · exact Nat.le_refl _
    split
    · exact Nat.le_refl _
    · exact Nat.zero_le _
end

section
variable {w0 w : World} {Ts : List (Thg w0.heap.size)} {v : Value} {ls : List (List UInt8)}
theorem Apart.allFrom (h : Apart w0 w0.heap.size Ts w) (j : Nat) (hj : Ts[j]? = some (BBT w0.heap.size v ls)) :
    ∃ xs : List Value, w.ownsRow w0.heap.size 22 1 v xs.length xs ∧ xs.length = ls.length ∧ (∀ u ∈ xs, u.oneCell' = true) ∧ ∀ (v' : Value) (w' : World), w'.ownsRow w0.heap.size 22 1 v' xs.length xs → Mod (fun _ => False) w w' → (v'.ownBlock = none ∨ v'.ownBlock = some w.heap.size) →
      Apart w0 w0.heap.size (Ts.set j (AllT w0 w0.heap.size v' ls)) w' := by
  obtain ⟨F, ⟨xs, h1, h2, h3, rfl⟩, hup⟩ := h.turn j hj
  refine ⟨xs, h1, h2, fun u hu => ?_, fun v' w' k1 k2 k3 => hup _ _ ⟨k2.mono (fun _ _ e => e.elim), _, ⟨xs, fun k => ∃ x ∈ xs, x.ownBlock = some k, k1, h2, fun i hi hi2 => ?_, fun k hk => ?_, fun k hk e => ?_, rfl⟩, fun k hk => ?_⟩⟩
  · obtain ⟨i, hi, rfl⟩ := List.getElem_of_mem hu
    obtain ⟨a, c, e, -⟩ := (h3 i hi (by omega)).shape
    rw [e]; rfl
  · have ho := (h3 i hi hi2).mod k2 (fun _ _ => id)
    rcases ho.2 with ⟨e1, e2⟩ | ⟨g, cap, cur, e1, -⟩
    · left
      have e3 : ls[i] = [] := List.eq_nil_of_length_eq_zero e2
      rw [e1, e3]
      exact ⟨none, 0, rfl, BytesAt.nil _ _, fun _ => rfl⟩
    · right
      refine ⟨g, 0, cap, e1, ⟨xs[i], List.getElem_mem hi, by rw [e1]; rfl⟩, ?_⟩
      obtain ⟨a', c', e', -, -, hb⟩ := ho.shape
      rw [e1] at e'
      cases e'
      exact hb
  · obtain ⟨x, hx, e⟩ := hk
    obtain ⟨i, hi, rfl⟩ := List.getElem_of_mem hx
    have := World.ownsRow.lt (h3 i hi (by omega)) k e
    exact ⟨this.1, Nat.lt_of_lt_of_le this.2 k2.size⟩
  · obtain ⟨x, hx, e2⟩ := hk
    obtain ⟨i, hi, rfl⟩ := List.getElem_of_mem hx
    have := (World.ownsRow.lt (h3 i hi (by omega)) k e2).2
    rcases k3 with e3 | e3
    · rw [e3] at e; cases e
    · rw [e3] at e; cases e; omega
  · rcases hk with e | e
    · rcases k3 with e3 | e3
      · rw [e3] at e; cases e
      · rw [e3] at e; cases e; exact .inr (Nat.le_refl _)
    · exact .inl (.inr e)

/-- append(nil, rows...) -/
theorem appNilRows {ops : Array Oper} {rest : List Oper} {o : Oper} {a : Act} {Q : Exit → Act → World → Prop} (hgd : o.guard = none) (s x : Operand) (ho : o.op = .call { callee := .builtin .append, args := #[s, x], argTypes := #[66, 66] })
    (B : Nat) (hs : a.eval s = .slice none 0 0) (xs : List Value) (v : Value) (hx : a.eval x = v) (hown : w.ownsRow B 22 1 v xs.length xs) (h47 : xs.length ≤ 1000) (h1 : ∀ u ∈ xs, u.oneCell' = true) (hB : B ≤ w.heap.size)
    (h : ∀ v' w', w'.ownsRow B 22 1 v' xs.length xs → Mod (fun _ => False) w w' → (v'.ownBlock = none ∨ v'.ownBlock = some w.heap.size) → wpList Try.prog ops Q rest (a.put o.dst v') w') :
    wpList Try.prog ops Q (o :: rest) a w := by
  rcases hown.2 with ⟨e1, e2⟩ | ⟨g, cap, cur, e1, -, hg, hle, -, hsz, hrow⟩
  · have e3 : xs = [] := List.eq_nil_of_length_eq_zero e2
    subst e3
    obtain ⟨i, hi, hz, hs1, hb1⟩ := info_parts info22
    refine wpList_append_own_none hgd s x 66 ho B 22 i 1 Try.underlying66 hi (.slice none 0 0) 0 [] hs (World.ownsRow_nil w B 22 1) (by rw [hx]; exact e1) ?_
    exact h _ w (World.ownsRow_nil w B 22 1) (Mod.refl _ _) (.inl rfl)
  · refine appR 66 22 _ 1 24 Try.underlying66 info22 rfl (by decide) (by decide) hgd s x ho B (.slice none 0 0) 0 [] hs (World.ownsRow_nil w B 22 1) ⟨g, 0, none⟩ xs.length cap xs (by rw [hx]; exact e1) (by omega) (fun j u hu => ?_) h1 (by omega) hB ?_
    · have hadd : (⟨g, 0, none⟩ : Addr).add j = ⟨g, j, none⟩ := by unfold Addr.add; split <;> simp_all
      rw [hadd, cell_of_row w g j cur 22 (0, 0) hg]
      have h8 := congrArg (fun x => x[j]?) hrow
      have hj : j < xs.length := (List.getElem?_eq_some_iff.1 hu).1
      simp only [List.getElem?_take, Nat.mul_one, hj, if_true] at h8
      rw [← Array.getElem?_toList, h8, hu]
    · intro v' w' k1 k2 k3
      refine h v' w' (by simpa using k1) (k2.mono (fun k _ e => by simp [Value.ownBlock] at e)) (by simpa [Value.ownBlock] using k3)
end
end Go.Proofs.Ytdinnkacilgmmaa
