/- The pager said plainly: what its disk bears behind calls, failures and a crash. -/
import Derived.Test.YtdinnkacilgmmaaPag15
import Derived.Test.YtdinnkacilgmmaaRDiskZ
namespace Go.Proofs.Ytdinnkacilgmmaa
open Go.RowKit

/-! ### a root's sector, read back -/
theorem pad_slot (R : Rt) : pad (slotPre R ++ R.mt) = le 8 R.gen ++ (le 4 (R.page + 1).toNat ++ (le 8 R.next ++ (UInt8.ofNat R.mt.length :: (R.mt ++ List.replicate (252 - (slotPre R ++ R.mt).length) 0)))) := by
  unfold pad
  generalize List.replicate (252 - (slotPre R ++ R.mt).length) (0 : UInt8) = Z
  unfold slotPre
  simp [List.append_assoc]
theorem rootOf_slotB {pages : Nat} (R : Rt) (hg : 1 ≤ R.gen ∧ R.gen ≤ 1152921504606846976) (hp : -1 ≤ R.page ∧ R.page < (pages : Int)) (hpg : pages ≤ 4096) (hn : 1 ≤ R.next ∧ R.next ≤ 1152921504606846976) (hm : R.mt.length ≤ 100) :
    rootOf pages (slotB R) = some R := by
  have h4 : (slotB R).drop 4 = _ := (seal_drop _).trans (pad_slot R)
  have e1 : ((slotB R).drop 4).take 8 = le 8 R.gen := by rw [h4]; exact List.take_left' (le_length _ _)
  have d12 : (slotB R).drop 12 = le 4 (R.page + 1).toNat ++ (le 8 R.next ++ (UInt8.ofNat R.mt.length :: (R.mt ++ List.replicate (252 - (slotPre R ++ R.mt).length) 0))) := by
    rw [show (12 : Nat) = 4 + 8 by rfl, ← List.drop_drop, h4]; exact List.drop_left' (le_length _ _)
  have e2 : ((slotB R).drop 12).take 4 = le 4 (R.page + 1).toNat := by rw [d12]; exact List.take_left' (le_length _ _)
  have d16 : (slotB R).drop 16 = le 8 R.next ++ (UInt8.ofNat R.mt.length :: (R.mt ++ List.replicate (252 - (slotPre R ++ R.mt).length) 0)) := by
    rw [show (16 : Nat) = 12 + 4 by rfl, ← List.drop_drop, d12]; exact List.drop_left' (le_length _ _)
  have e3 : ((slotB R).drop 16).take 8 = le 8 R.next := by rw [d16]; exact List.take_left' (le_length _ _)
  have d24 : (slotB R).drop 24 = UInt8.ofNat R.mt.length :: (R.mt ++ List.replicate (252 - (slotPre R ++ R.mt).length) 0) := by
    rw [show (24 : Nat) = 16 + 8 by rfl, ← List.drop_drop, d16]; exact List.drop_left' (le_length _ _)
  have e4 : (slotB R).getD 24 0 = UInt8.ofNat R.mt.length := by
    have := congrArg (fun l => l[0]?) d24
    simp only [List.getElem?_drop, List.getElem?_cons_zero, Nat.add_zero] at this
    rw [List.getD_eq_getElem?_getD, this]; rfl
  have e5 : ((slotB R).getD 24 0).toNat = R.mt.length := by rw [e4, UInt8.toNat_ofNat']; omega
  have d25 : (slotB R).drop 25 = R.mt ++ List.replicate (252 - (slotPre R ++ R.mt).length) 0 := by
    rw [show (25 : Nat) = 24 + 1 by rfl, ← List.drop_drop, d24]; rfl
  have hs : sound (slotB R) = true := seal_sound _
  have u1 : unle (le 8 R.gen) = R.gen := by rw [unle_le]; omega
  have u2 : unle (le 4 (R.page + 1).toNat) = (R.page + 1).toNat := by rw [unle_le]; omega
  have u3 : unle (le 8 R.next) = R.next := by rw [unle_le]; omega
  unfold rootOf
  rw [e1, e2, e3, e5, u1, u2, u3, d25, List.take_left, if_pos ⟨hs, hg.1, hg.2, by omega, hn.1, hn.2, hm⟩]
  have : ((R.page + 1).toNat : Int) - 1 = R.page := by omega
  rw [this]
theorem rootOf_pos {pages : Nat} {s : List UInt8} {x : Rt} (h : rootOf pages s = some x) : 1 ≤ x.gen ∧ x.gen ≤ 1152921504606846976 := by
  unfold rootOf at h
  split at h
  · rename_i c
    injection h with h
    subst h
    exact ⟨c.2.1, c.2.2.1⟩
  · cases h
theorem unle_noughts (n : Nat) : unle (List.replicate n 0) = 0 := by
  induction n with
  | zero => rfl
  | succ n ih => rw [List.replicate_succ]; simp only [unle, ih]; rfl
theorem rootOf_zeros (pages : Nat) : rootOf pages (List.replicate 256 0) = none := by
  unfold rootOf
  rw [if_neg]
  rintro ⟨-, h, -⟩
  rw [List.drop_replicate, List.take_replicate, unle_noughts] at h
  omega

/-! ### sectors that are left alone -/
theorem sector_layAll_off (l : List (Nat × List UInt8)) (n : Nat) : ∀ (s : List UInt8), (∀ x ∈ l, x.1 * 256 + x.2.length ≤ s.length ∧ x.2.length ≤ 256) → (∀ x ∈ l, x.1 ≠ n) → sector (layAll s l) n = sector s n := by
  induction l with
  | nil => intro s _ _; rfl
  | cons x r ih =>
    intro s h hne
    have h0 := h x List.mem_cons_self
    show sector (layAll (lay s x.1 x.2) r) n = _
    rw [ih _ (fun y hy => by rw [lay_length _ _ _ h0.1]; exact h y (List.mem_cons_of_mem _ hy)) (fun y hy => hne y (List.mem_cons_of_mem _ hy))]
    exact sector_lay_off s x.1 n x.2 h0.1 h0.2 (hne x List.mem_cons_self).symm
theorem sector_crashed_off (l : List (Nat × List UInt8)) (n : Nat) : ∀ (s : List UInt8) (ks : List Int), (∀ x ∈ l, x.1 * 256 + x.2.length ≤ s.length ∧ x.2.length ≤ 256) → (∀ x ∈ l, x.1 ≠ n) → sector (crashed s l ks) n = sector s n := by
  induction l with
  | nil => intro s ks _ _; rfl
  | cons x r ih =>
    intro s ks h hne
    have h0 := h x List.mem_cons_self
    have hl : (x.2.take (clamp (ks.headD 0))).length ≤ x.2.length := List.length_take_le' _ _
    show sector (crashed (lay s x.1 (x.2.take (clamp (ks.headD 0)))) r ks.tail) n = _
    rw [ih _ _ (fun y hy => by rw [lay_length _ _ _ (by omega)]; exact h y (List.mem_cons_of_mem _ hy)) (fun y hy => hne y (List.mem_cons_of_mem _ hy))]
    exact sector_lay_off s x.1 n _ (by omega) (by omega) (hne x List.mem_cons_self).symm
theorem Dsk.wf.fit2 {D : Dsk} (h : D.wf) : ∀ x ∈ D.l, x.1 * 256 + x.2.length ≤ D.safe.length ∧ x.2.length ≤ 256 := fun x hx => ⟨h.fit x hx, by rw [(h.l x hx).2]; exact Nat.le_refl _⟩
theorem dwrite_ok {D : Dsk} (h : D.wf) {n : Nat} {b : List UInt8} (hn : n < D.N) (hb : b.length = 256) (hg : D.gone = false) (hf : D.full = false) :
    D.why (n : Int) b = 0 ∧ D.write (n : Int) b = { D with l := D.l ++ [(n, b)] } ∧ sector (D.write (n : Int) b).now n = b ∧ ∀ m, m ≠ n → sector (D.write (n : Int) b).now m = sector D.now m := by
  have h0 : D.why (n : Int) b = 0 := by
    unfold Dsk.why
    rw [if_neg (by rw [hg]; decide), if_neg (by omega), if_neg (by omega), if_neg (by rw [hf]; decide)]
  have h1 : D.write (n : Int) b = { D with l := D.l ++ [(n, b)] } := by
    unfold Dsk.write
    rw [if_pos h0, sect_full b hb, Int.toNat_natCast]
  have hn2 : (D.write (n : Int) b).now = lay D.now n b := by
    rw [h1]
    show layAll D.safe (D.l ++ [(n, b)]) = _
    rw [layAll_snoc]; rfl
  have hlen : n * 256 + 256 ≤ D.now.length := by rw [h.now, h.len]; omega
  refine ⟨h0, h1, ?_, fun m hm => ?_⟩
  · rw [hn2]; exact sector_lay_at _ _ _ hlen hb
  · rw [hn2]; exact sector_lay_off _ _ _ _ (by omega) (by omega) hm

/-! ### the best root -/
def SlotsOk (pages frm : Nat) (R : Rt) (s : List UInt8) : Prop :=
  (∀ i, i < 2 → ∀ x, rootOf pages (sector s (frm + i)) = some x → x.gen ≤ R.gen ∧ (x.gen = R.gen → x = R)) ∧ (R = Rt.none ∨ ∃ i, i < 2 ∧ rootOf pages (sector s (frm + i)) = some R)
theorem SlotsOk.best {pages frm : Nat} {R : Rt} {s : List UInt8} (h : SlotsOk pages frm R s) (D : Dsk) (hD : ∀ i, i < 2 → sector D.now (frm + i) = sector s (frm + i)) : bestAt pages frm D 2 = R := by
  obtain ⟨h1, h2⟩ := h
  have a0 := h1 0 (by decide)
  have a1 := h1 1 (by decide)
  show (Rt.none.better (rootOf pages (sector D.now (frm + 0)))).better (rootOf pages (sector D.now (frm + 1))) = R
  rw [hD 0 (by decide), hD 1 (by decide)]
  have better_none : ∀ r : Rt, r.better Option.none = r := fun _ => rfl
  have better_some : ∀ (r x : Rt), r.better (some x) = if r.gen < x.gen then x else r := fun _ _ => rfl
  have n0 : Rt.none.gen = 0 := rfl
  rcases h2 with rfl | ⟨i, hi, hR⟩
  · have e0 : rootOf pages (sector s (frm + 0)) = none := by
      cases e : rootOf pages (sector s (frm + 0)) with
      | none => rfl
      | some x => have := (a0 x e).1; have := (rootOf_pos e).1; omega
    have e1 : rootOf pages (sector s (frm + 1)) = none := by
      cases e : rootOf pages (sector s (frm + 1)) with
      | none => rfl
      | some x => have := (a1 x e).1; have := (rootOf_pos e).1; omega
    rw [e0, e1]; rfl
  · have hpos := (rootOf_pos hR).1
    have hi' : i = 0 ∨ i = 1 := by omega
    rcases hi' with rfl | rfl
    · rw [hR, better_some, if_pos (by omega)]
      cases e : rootOf pages (sector s (frm + 1)) with
      | none => rfl
      | some x => rw [better_some, if_neg (by have := (a1 x e).1; omega)]
    · rw [hR]
      cases e : rootOf pages (sector s (frm + 0)) with
      | none => rw [better_none, better_some, if_pos (by omega)]
      | some x =>
        have hx := a0 x e
        have hp := (rootOf_pos e).1
        rw [better_some Rt.none x, if_pos (by omega), better_some x R]
        split
        · rfl
        · exact hx.2 (by omega)
end Go.Proofs.Ytdinnkacilgmmaa
