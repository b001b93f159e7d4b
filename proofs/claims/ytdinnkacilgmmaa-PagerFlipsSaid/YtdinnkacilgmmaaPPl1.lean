/- The pager said plainly: its calls keep what its disk bears. -/
import Derived.Test.YtdinnkacilgmmaaPPl0
namespace Go.Proofs.Ytdinnkacilgmmaa
open Go.RowKit

/-- a pager on a disk that is not full; was: what was written on each page -/
structure PInv (P : Pgr) (D : Dsk) (was : Nat → List UInt8) : Prop where
  pw : P.wf D
  dw : D.wf
  full : D.full = false
  dead : D.gone = P.dead
  slots : SlotsOk P.pages P.frm P.root D.safe
  l : ∀ x ∈ D.l, P.frm + 2 ≤ x.1 ∧ ∀ n, x.1 = P.frm + 2 + n → P.is_.getD n 0 ≠ 1
  now : ∀ n, n < P.pages → P.is_.getD n 0 ≠ 0 → sector D.now (P.frm + 2 + n) = seal_ (was n) ∧ (was n).length ≤ 252

section
variable {P : Pgr} {D : Dsk} {was : Nat → List UInt8} {page next : Int} {m : List UInt8} {l : List Int}

theorem getD_set (s : List UInt8) (i j : Nat) (c : UInt8) (h : i < s.length) : (s.set i c).getD j 0 = if j = i then c else s.getD j 0 := by
  rw [List.getD_eq_getElem?_getD, List.getD_eq_getElem?_getD, List.getElem?_set]
  by_cases e : i = j
  · subst e; simp [h]
  · rw [if_neg e, if_neg (Ne.symm e)]

theorem empties_first (P : Pgr) (h : P.empties.length ≠ 0) : P.empties.getD 0 0 < P.pages ∧ P.is_.getD (P.empties.getD 0 0) 0 = 0 := by
  have hm : P.empties.getD 0 0 ∈ P.empties := by
    rw [List.getD_eq_getElem?_getD, List.getElem?_eq_getElem (by omega)]
    exact List.getElem_mem _
  unfold Pgr.empties at hm ⊢
  rw [List.mem_filter, List.mem_range] at hm
  exact ⟨hm.1, by simpa [freeAt] using hm.2⟩

theorem PInv.write (h : PInv P D was) (b : List UInt8) :
    ((P.write D b).2.1 = 0 → ∃ e : Nat, (P.write D b).1 = (e : Int) ∧ e < P.pages ∧ P.is_.getD e 0 = 0 ∧ b.length ≤ 252 ∧ (P.write D b).2.2.1 = { P with is_ := P.is_.set e 2 } ∧ (P.write D b).2.2.2.l.length ≤ D.l.length + 1 ∧ e = P.empties.getD 0 0 ∧
      PInv (P.write D b).2.2.1 (P.write D b).2.2.2 (fun n => if n = e then b else was n)) ∧
    ((P.write D b).2.1 ≠ 0 → (P.write D b).2.2.1 = P ∧ (P.write D b).2.2.2 = D) := by
  by_cases h1 : P.dead = true
  · have e : P.write D b = (0, 21, P, D) := by unfold Pgr.write; rw [if_pos h1]
    rw [e]
    exact ⟨fun h => absurd (show (21 : Int) = 0 from h) (by decide), fun _ => ⟨rfl, rfl⟩⟩
  by_cases h2 : 252 < b.length
  · have e : P.write D b = (0, 3, P, D) := by unfold Pgr.write; rw [if_neg h1, if_pos h2]
    rw [e]
    exact ⟨fun h => absurd (show (3 : Int) = 0 from h) (by decide), fun _ => ⟨rfl, rfl⟩⟩
  by_cases h3 : P.empties.length = 0
  · have e : P.write D b = (0, 4, P, D) := by unfold Pgr.write; rw [if_neg h1, if_neg h2, if_pos h3]
    rw [e]
    exact ⟨fun h => absurd (show (4 : Int) = 0 from h) (by decide), fun _ => ⟨rfl, rfl⟩⟩
  obtain ⟨he, hf⟩ := empties_first P h3
  obtain ⟨e, hE⟩ : ∃ e, e = P.empties.getD 0 0 := ⟨_, rfl⟩
  rw [← hE] at he hf
  have hfit := h.pw.fit
  have hn : P.frm + 2 + e < D.N := by omega
  obtain ⟨w1, w2, w3, w4⟩ := dwrite_ok h.dw hn (seal_length b (by omega)) (by rw [h.dead]; simpa using h1) h.full
  have ew : P.write D b = ((e : Int), 0, { P with is_ := P.is_.set e 2 }, D.write ((P.frm + 2 + e : Nat) : Int) (seal_ b)) := by
    unfold Pgr.write Pgr.writeAt
    rw [if_neg h1, if_neg h2, if_neg h3, ← hE, if_pos w1]
  rw [ew]
  have htop := h.pw.top
  have hlen := h.pw.len
  refine ⟨fun _ => ⟨e, rfl, he, hf, by omega, rfl, by rw [w2]; simp, hE, ⟨⟨by show (P.is_.set e 2).length = 4096; rw [List.length_set, hlen], by rw [w2]; exact hfit, by rw [w2]; exact htop, h.pw.pos, h.pw.root⟩, ?_, by rw [w2]; exact h.full, by rw [w2]; exact h.dead, by rw [w2]; exact h.slots, ?_, ?_⟩⟩, fun h => absurd rfl h⟩
  · rw [w2]
    exact ⟨h.dw.len, h.dw.pos, h.dw.top, fun x hx => by
      rcases List.mem_append.1 hx with hx | hx
      · exact h.dw.l x hx
      · rw [List.mem_singleton] at hx; subst hx; exact ⟨hn, seal_length b (by omega)⟩⟩
  · rw [w2]
    intro x hx
    show P.frm + 2 ≤ x.1 ∧ ∀ n, x.1 = P.frm + 2 + n → (P.is_.set e 2).getD n 0 ≠ 1
    rcases List.mem_append.1 hx with hx | hx
    · refine ⟨(h.l x hx).1, fun n hn => ?_⟩
      rw [getD_set _ _ _ _ (by omega)]
      split
      · decide
      · exact (h.l x hx).2 n hn
    · rw [List.mem_singleton] at hx; subst hx
      refine ⟨by show P.frm + 2 ≤ P.frm + 2 + e; omega, fun n hn => ?_⟩
      have hne : n = e := by have : P.frm + 2 + e = P.frm + 2 + n := hn; omega
      rw [getD_set _ _ _ _ (by omega), if_pos hne]
      decide
  · intro n hn hi
    show sector (D.write ((P.frm + 2 + e : Nat) : Int) (seal_ b)).now (P.frm + 2 + n) = seal_ (if n = e then b else was n) ∧ (if n = e then b else was n).length ≤ 252
    by_cases hne : n = e
    · subst hne
      rw [if_pos rfl]
      exact ⟨w3, by omega⟩
    · rw [if_neg hne, w4 _ (by omega)]
      have hi' : (P.is_.set e 2).getD n 0 ≠ 0 := hi
      rw [getD_set _ _ _ _ (by omega), if_neg hne] at hi'
      exact h.now n hn hi'

theorem PInv.release (h : PInv P D was) (n : Int) : PInv (P.release n) D was ∧ (P.release n).root = P.root ∧ (P.release n).frm = P.frm ∧ (P.release n).pages = P.pages ∧ (P.release n).dead = P.dead := by
  unfold Pgr.release
  split
  · rename_i hc
    have ht : 0 ≤ n ∧ n < (P.pages : Int) := of_decide_eq_true hc.1
    have hlen := h.pw.len
    have hfit := h.pw.fit
    have htop := h.pw.top
    have hm : n.toNat < P.is_.length := by omega
    refine ⟨⟨⟨by show (P.is_.set _ _).length = 4096; rw [List.length_set, hlen], hfit, htop, h.pw.pos, h.pw.root⟩, h.dw, h.full, h.dead, h.slots, fun x hx => ⟨(h.l x hx).1, fun k hk => ?_⟩, fun k hk hi => ?_⟩, rfl, rfl, rfl, rfl⟩
    · show (P.is_.set n.toNat 0).getD k 0 ≠ 1
      rw [getD_set _ _ _ _ hm]
      split
      · decide
      · exact (h.l x hx).2 k hk
    · have hi' : (P.is_.set n.toNat 0).getD k 0 ≠ 0 := hi
      rw [getD_set _ _ _ _ hm] at hi'
      split at hi'
      · exact absurd rfl hi'
      · exact h.now k hk hi'
  · exact ⟨h, rfl, rfl, rfl, rfl⟩

theorem PInv.fail (h : PInv P D was) : PInv P { D with bad := true } was := ⟨⟨h.pw.len, h.pw.fit, h.pw.top, h.pw.pos, h.pw.root⟩, ⟨h.dw.len, h.dw.pos, h.dw.top, h.dw.l⟩, h.full, h.dead, h.slots, h.l, h.now⟩

theorem PInv.read (h : PInv P D was) (n : Nat) (hn : n < P.pages) (hi : P.is_.getD n 0 ≠ 0) : P.read D (n : Int) = (pad (was n), 0) := by
  obtain ⟨h1, h2⟩ := h.now n hn hi
  have ht : P.there (n : Int) = true := decide_eq_true ⟨by omega, by omega⟩
  unfold Pgr.read
  rw [if_pos ht, Int.toNat_natCast, h1, if_pos (seal_sound _), seal_drop]

/-- a used page is safe -/
theorem PInv.safe (h : PInv P D was) (n : Nat) (hn : n < P.pages) (hi : P.is_.getD n 0 = 1) : sector D.safe (P.frm + 2 + n) = seal_ (was n) := by
  rw [← (h.now n hn (by rw [hi]; decide)).1]
  exact (sector_layAll_off D.l _ D.safe h.dw.fit2 (fun x hx e => (h.l x hx).2 n e hi)).symm

theorem PInv.crash (h : PInv P D was) (ks : List Int) : (Pgr.opened P.frm (P.pages + 2) (D.crash ks)).root = P.root ∧
    ∀ n, n < P.pages → P.is_.getD n 0 = 1 → (Pgr.opened P.frm (P.pages + 2) (D.crash ks)).read (D.crash ks) (n : Int) = (pad (was n), 0) := by
  have hnow : (D.crash ks).now = crashed D.safe D.l ks := rfl
  refine ⟨?_, fun n hn hi => ?_⟩
  · show bestAt (P.pages + 2 - 2) P.frm (D.crash ks) 2 = P.root
    rw [Nat.add_sub_cancel]
    refine h.slots.best _ (fun i hi => ?_)
    rw [hnow]
    exact sector_crashed_off D.l _ D.safe ks h.dw.fit2 (fun x hx e => by have := (h.l x hx).1; omega)
  · have ht : (Pgr.opened P.frm (P.pages + 2) (D.crash ks)).there (n : Int) = true := decide_eq_true ⟨by omega, by show (n : Int) < ((P.pages + 2 - 2 : Nat) : Int); omega⟩
    unfold Pgr.read
    rw [if_pos ht, Int.toNat_natCast, hnow]
    have e : sector (crashed D.safe D.l ks) ((Pgr.opened P.frm (P.pages + 2) (D.crash ks)).frm + 2 + n) = seal_ (was n) := by
      rw [← h.safe n hn hi]
      exact sector_crashed_off D.l _ D.safe ks h.dw.fit2 (fun x hx e => (h.l x hx).2 n e hi)
    rw [e, if_pos (seal_sound _), seal_drop]

theorem setAll_get (l : List Int) (n : Nat) (hn : n < 4096) : ∀ (s : List UInt8), s.length = 4096 → (∀ x ∈ l, 0 ≤ x ∧ x < 4096) → (setAll l s).getD n 0 = if (n : Int) ∈ l then 1 else s.getD n 0 := by
  induction l with
  | nil => intro s _ _; rfl
  | cons x r ih =>
    intro s hs hl
    have hx := hl x List.mem_cons_self
    show (setAll r (s.set x.toNat 1)).getD n 0 = _
    rw [ih _ (by rw [List.length_set, hs]) (fun y hy => hl y (List.mem_cons_of_mem _ hy)), getD_set _ _ _ _ (by omega)]
    by_cases h1 : (n : Int) ∈ r
    · rw [if_pos h1, if_pos (List.mem_cons_of_mem _ h1)]
    · rw [if_neg h1]
      by_cases h2 : n = x.toNat
      · rw [if_pos h2, if_pos (by rw [show (n : Int) = x by omega]; exact List.mem_cons_self)]
      · rw [if_neg h2, if_neg]
        rw [List.mem_cons]
        rintro (e | e)
        · omega
        · exact h1 e
theorem zeros4096_get (n : Nat) : zeros4096.getD n 0 = 0 := by
  unfold zeros4096
  rw [List.getD_eq_getElem?_getD, List.getElem?_replicate]
  split <;> rfl

theorem dsync_ok {D : Dsk} (hg : D.gone = false) (hb : D.bad = false) : D.whySync = 0 ∧ D.sync = { D with safe := D.now, l := [] } := by
  unfold Dsk.whySync Dsk.sync
  rw [if_neg (by rw [hg]; decide), if_neg (by rw [hb]; decide), if_neg (by rw [hg]; decide), if_neg (by rw [hb]; decide)]
  exact ⟨rfl, rfl⟩
theorem dsync_bad {D : Dsk} (hg : D.gone = false) (hb : D.bad = true) : D.whySync = 20 ∧ D.sync = { D with gone := true } := by
  unfold Dsk.whySync Dsk.sync
  rw [if_neg (by rw [hg]; decide), if_pos hb, if_neg (by rw [hg]; decide), if_pos hb]
  exact ⟨rfl, rfl⟩
theorem dsync_wf {D : Dsk} (h : D.wf) : ({ D with safe := D.now, l := [] } : Dsk).wf := ⟨by show D.now.length = D.now.length / 256 * 256; rw [h.now]; exact h.len, by show 1 ≤ D.now.length / 256; rw [h.now]; exact h.pos, by show D.now.length / 256 ≤ 4096; rw [h.now]; exact h.top, fun x hx => by cases hx⟩

theorem whyFlip_ok (h : P.whyFlip page next m l = 0) : P.dead = false ∧ (-1 ≤ page ∧ page < (P.pages : Int)) ∧ (1 ≤ next ∧ next ≤ 1152921504606846976) ∧ (∀ x ∈ l, ∃ n : Nat, x = (n : Int) ∧ n < P.pages ∧ P.is_.getD n 0 ≠ 0) ∧ m.length ≤ 100 := by
  unfold Pgr.whyFlip at h
  split at h
  · cases h
  rename_i h1
  split at h
  · cases h
  rename_i h2
  split at h
  · cases h
  rename_i h3
  split at h
  · cases h
  rename_i h4
  have hargs : (page = -1 ∨ P.there page = true) ∧ 1 ≤ next ∧ next ≤ 1152921504606846976 := by
    have h2' : P.badArgs page next = false := by simpa using h2
    unfold Pgr.badArgs at h2'
    simp only [Bool.or_eq_false_iff, Bool.and_eq_false_iff, decide_eq_false_iff_not, bne_eq_false_iff_eq, Bool.not_eq_false'] at h2'
    exact ⟨h2'.1.1, by omega, by omega⟩
  refine ⟨by simpa using h1, ?_, hargs.2, fun x hx => ?_, by omega⟩
  · rcases hargs.1 with e | e
    · omega
    · have h5 : 0 ≤ page ∧ page < (P.pages : Int) := of_decide_eq_true e
      omega
  · have h3' : l.any P.noFlip = false := by simpa using h3
    have h5 := List.any_eq_false.1 h3' x hx
    unfold Pgr.noFlip at h5
    simp only [Bool.or_eq_true, Bool.not_eq_true', beq_iff_eq, not_or, Bool.not_eq_false] at h5
    have h6 : 0 ≤ x ∧ x < (P.pages : Int) := of_decide_eq_true h5.1
    exact ⟨x.toNat, by omega, by omega, h5.2⟩

theorem PInv.flip (h : PInv P D was) (page next : Int) (m : List UInt8) (l : List Int) (hgen : P.root.gen + 1 ≤ 1152921504606846976) :
    ((P.flip D page next m l).1 = 0 → P.whyFlip page next m l = 0 ∧ D.bad = false ∧ (P.flip D page next m l).2.1 = { P with root := P.toFlip page next m, is_ := setAll l zeros4096 } ∧ (P.flip D page next m l).2.2.l = [] ∧ (P.flip D page next m l).2.2.bad = false ∧ PInv (P.flip D page next m l).2.1 (P.flip D page next m l).2.2 was) ∧
    ((P.flip D page next m l).1 ≠ 0 → (P.flip D page next m l).2.1.root = P.root ∧ (P.flip D page next m l).2.1.is_ = P.is_ ∧ (P.flip D page next m l).2.1.frm = P.frm ∧ (P.flip D page next m l).2.1.pages = P.pages ∧ (P.flip D page next m l).2.2.l = D.l ∧ PInv (P.flip D page next m l).2.1 (P.flip D page next m l).2.2 was ∧ (P.whyFlip page next m l ≠ 0 ∨ D.bad = true)) := by
  by_cases hw : P.whyFlip page next m l = 0
  · obtain ⟨hd, hp, hn, hl, hm⟩ := whyFlip_ok hw
    have hg : D.gone = false := by rw [h.dead, hd]
    have hfit := h.pw.fit
    have htop := h.pw.top
    have hpg : P.pages ≤ 4096 := by omega
    cases hb : D.bad with
    | true =>
      obtain ⟨s1, s2⟩ := dsync_bad hg hb
      have hne : D.whySync ≠ 0 := by rw [s1]; decide
      have e : P.flip D page next m l = (20, { P with dead := true }, { D with gone := true }) := by
        unfold Pgr.flip
        rw [if_neg (by rw [hw]; decide), flipD_no _ _ hne]
        simp only
        rw [if_neg hne, s1, s2]
      rw [e]
      exact ⟨fun h => absurd (show (20 : Int) = 0 from h) (by decide), fun _ => ⟨rfl, rfl, rfl, rfl, rfl, ⟨⟨h.pw.len, hfit, htop, h.pw.pos, h.pw.root⟩, ⟨h.dw.len, h.dw.pos, h.dw.top, h.dw.l⟩, h.full, rfl, h.slots, h.l, h.now⟩, .inr rfl⟩⟩
    | false =>
      obtain ⟨s1, s2⟩ := dsync_ok hg hb
      obtain ⟨g, hgg⟩ : ∃ g, g = (P.root.gen + 1) % 2 := ⟨_, rfl⟩
      have hg2 : g < 2 := by omega
      have hR : (P.toFlip page next m).ok := ⟨by show P.root.gen + 1 < _; omega, by show -1 ≤ page ∧ page ≤ 4096; omega, by show next.toNat < _; omega, hm⟩
      have hsl := slotB_length _ hR
      have hwf1 := dsync_wf h.dw
      have hN1 : ({ D with safe := D.now, l := [] } : Dsk).N = D.N := by show D.now.length / 256 = D.safe.length / 256; rw [h.dw.now]
      obtain ⟨w1, w2, w3, w4⟩ := dwrite_ok hwf1 (n := P.frm + g) (by rw [hN1]; omega) hsl hg h.full
      obtain ⟨D2, hD2⟩ : ∃ D2, D2 = ({ D with safe := D.now, l := [] } : Dsk).write ((P.frm + g : Nat) : Int) (slotB (P.toFlip page next m)) := ⟨_, rfl⟩
      rw [← hD2] at w2 w3 w4
      have hD2g : D2.gone = false := by rw [w2]; exact hg
      have hD2b : D2.bad = false := by rw [w2]; exact hb
      have hD2f : D2.full = false := by rw [w2]; exact h.full
      have hwf2 : D2.wf := by
        rw [w2]
        exact ⟨hwf1.len, hwf1.pos, hwf1.top, fun x hx => by
          have hx' : x = (P.frm + g, slotB (P.toFlip page next m)) := by simpa using hx
          subst hx'
          exact ⟨by show P.frm + g < ({ D with safe := D.now, l := [] } : Dsk).N; rw [hN1]; omega, hsl⟩⟩
      obtain ⟨t1, t2⟩ := dsync_ok hD2g hD2b
      have hwf3 := dsync_wf hwf2
      have e : P.flip D page next m l = (0, { P with root := P.toFlip page next m, is_ := setAll l zeros4096 }, { D2 with safe := D2.now, l := [] }) := by
        have ef : flipD D ((P.frm + g : Nat) : Int) (slotB (P.toFlip page next m)) = (D2.whySync, D2.sync) := by
          rw [flipD_ok _ _ s1, s2, if_neg (fun hne => hne w1), ← hD2]
        unfold Pgr.flip
        rw [if_neg (by rw [hw]; decide), ← hgg, ef, if_pos t1, t2]
      rw [e]
      have hall : ∀ x ∈ l, 0 ≤ x ∧ x < 4096 := fun x hx => by obtain ⟨n, rfl, h1, -⟩ := hl x hx; omega
      have hN3 : ({ D2 with safe := D2.now, l := [] } : Dsk).N = D.N := by
        show D2.now.length / 256 = _
        rw [hwf2.now, w2]
        exact hN1
      have hsec : ∀ k, k ≠ P.frm + g → sector D2.now k = sector D.now k := fun k hk => (w4 k hk).trans rfl
      have hslot : ∀ i, i < 2 → sector D.now (P.frm + i) = sector D.safe (P.frm + i) := fun i hi => sector_layAll_off D.l _ D.safe h.dw.fit2 (fun x hx e => by have := (h.l x hx).1; omega)
      refine ⟨fun _ => ⟨hw, rfl, rfl, rfl, hD2b, ⟨⟨by show (setAll l zeros4096).length = 4096; rw [setAll_length, zeros4096_length], by rw [hN3]; exact hfit, by rw [hN3]; exact htop, h.pw.pos, hR⟩, hwf3, hD2f, by show D2.gone = P.dead; rw [hD2g, hd], ⟨?_, ?_⟩, (fun x hx => by cases hx), ?_⟩⟩, fun h => absurd rfl h⟩
      · intro i hi x hx
        show x.gen ≤ P.root.gen + 1 ∧ (x.gen = P.root.gen + 1 → x = P.toFlip page next m)
        have hx' : rootOf P.pages (sector D2.now (P.frm + i)) = some x := hx
        by_cases hig : i = g
        · rw [hig, w3, rootOf_slotB _ ⟨by show 1 ≤ P.root.gen + 1; omega, hgen⟩ hp hpg ⟨by show 1 ≤ next.toNat; omega, by show next.toNat ≤ _; omega⟩ hm] at hx'
          cases hx'
          exact ⟨Nat.le_refl _, fun _ => rfl⟩
        · rw [hsec _ (by omega), hslot i hi] at hx'
          have := (h.slots.1 i hi x hx').1
          exact ⟨by omega, fun e => by omega⟩
      · refine .inr ⟨g, hg2, ?_⟩
        show rootOf P.pages (sector D2.now (P.frm + g)) = some (P.toFlip page next m)
        rw [w3]
        exact rootOf_slotB _ ⟨by show 1 ≤ P.root.gen + 1; omega, hgen⟩ hp hpg ⟨by show 1 ≤ next.toNat; omega, by show next.toNat ≤ _; omega⟩ hm
      · intro n hn hi
        have hi' : (setAll l zeros4096).getD n 0 ≠ 0 := hi
        rw [setAll_get l n (by have : n < P.pages := hn; omega) _ zeros4096_length hall, zeros4096_get] at hi'
        have hmem : (n : Int) ∈ l := by
          by_cases hc : (n : Int) ∈ l
          · exact hc
          · rw [if_neg hc] at hi'; exact absurd rfl hi'
        obtain ⟨k, e1, e2, e3⟩ := hl _ hmem
        obtain rfl : n = k := by omega
        show sector D2.now (P.frm + 2 + n) = _ ∧ _
        rw [hsec _ (by omega)]
        exact h.now n e2 e3
  · have e : P.flip D page next m l = (P.whyFlip page next m l, P, D) := by unfold Pgr.flip; rw [if_pos hw]
    rw [e]
    exact ⟨fun h => absurd h hw, fun _ => ⟨rfl, rfl, rfl, rfl, rfl, h, .inl hw⟩⟩
end
end Go.Proofs.Ytdinnkacilgmmaa
