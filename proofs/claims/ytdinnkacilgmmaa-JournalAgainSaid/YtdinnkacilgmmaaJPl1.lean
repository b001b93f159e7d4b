/- The journal, said plainly: what a reader finds behind an append. -/
import Derived.Test.YtdinnkacilgmmaaJour7
import Derived.Test.YtdinnkacilgmmaaRDisk2
namespace Go.Proofs.Ytdinnkacilgmmaa
open Go.RowKit

/-! ### a sector -/
theorem secB_parts (s : Nat) (f : UInt8) (p : List UInt8) (hs : s < 18446744073709551616) :
    unle ((secB s f p).take 4) = (crc ((secB s f p).drop 4)).toNat ∧ unle (((secB s f p).drop 4).take 8) = s ∧ (secB s f p).getD 12 0 = f ∧ (secB s f p).getD 13 0 = UInt8.ofNat p.length ∧ ((secB s f p).drop 14).take p.length = p := by
  have ht : (secB s f p).take 4 = le 4 (crc (body s f p)).toNat := List.take_left' (le_length _ _)
  have hd : (secB s f p).drop 4 = body s f p := List.drop_left' (le_length _ _)
  have hb8 : (body s f p).take 8 = le 8 s := by unfold body; rw [List.append_assoc, List.append_assoc]; exact List.take_left' (le_length _ _)
  have hb10 : (body s f p).drop 10 = p ++ List.replicate (242 - p.length) 0 := by unfold body; rw [List.append_assoc]; exact List.drop_left' (by simp [le_length])
  have hlt := (crc (body s f p)).isLt
  refine ⟨?_, ?_, ?_, ?_, ?_⟩
  · rw [ht, hd, unle_le]; exact Nat.mod_eq_of_lt (by omega)
  · rw [hd, hb8, unle_le]; exact Nat.mod_eq_of_lt (by omega)
  · simp [secB, body, List.getD_eq_getElem?_getD, List.getElem?_append, le_length]
  · simp [secB, body, List.getD_eq_getElem?_getD, List.getElem?_append, le_length]
  · rw [show 14 = 4 + 10 from rfl, ← List.drop_drop, hd, hb10]; exact List.take_left' rfl
theorem right_secB (s : Nat) (f : UInt8) (p : List UInt8) (hs : s < 18446744073709551616) (hf : f.toNat ≤ 3) (h1 : 1 ≤ p.length) (h2 : p.length ≤ 242) : right (secB s f p) s = some (f, p) := by
  obtain ⟨a1, a2, a3, a4, a5⟩ := secB_parts s f p hs
  have hn : (UInt8.ofNat p.length).toNat = p.length := by rw [UInt8.toNat_ofNat']; omega
  unfold right
  rw [a3, a4, hn, a5, if_pos]
  refine ⟨a1, a2, ?_, ?_, ?_⟩
  · rw [UInt8.le_iff_toNat_le]; exact hf
  · rw [UInt8.le_iff_toNat_le, hn]; exact h1
  · rw [UInt8.le_iff_toNat_le, hn]; exact h2
theorem right_num {b : List UInt8} {s : Nat} {x : UInt8 × List UInt8} (h : right b s = some x) : unle ((b.drop 4).take 8) = s := by
  unfold right at h
  split at h
  · rename_i hc; exact hc.2.1
  · cases h
theorem right_secB_ne (s s' : Nat) (f : UInt8) (p : List UInt8) (hs : s < 18446744073709551616) (hne : s' ≠ s) : right (secB s f p) s' = none := by
  cases h : right (secB s f p) s' with
  | none => rfl
  | some x => exact absurd ((right_num h).symm.trans (secB_parts s f p hs).2.1) hne
theorem unle_zeros (n : Nat) : unle (List.replicate n 0) = 0 := by
  induction n with
  | zero => rfl
  | succ n ih => rw [List.replicate_succ, unle, ih]; rfl
theorem right_zeros (n s : Nat) (hs : 1 ≤ s) : right (List.replicate n 0) s = none := by
  cases h : right (List.replicate n 0) s with
  | none => rfl
  | some x =>
    have := right_num h
    rw [List.drop_replicate, List.take_replicate, unle_zeros] at this
    omega

/-! ### records, by what a reader reads -/
theorem recGo_congr (rd rd' : Nat → Option (UInt8 × List UInt8)) (s : Nat) : ∀ (fuel fuel' n : Nat) (all b : List UInt8) (m : Nat), recGo rd s fuel n all = some (b, m) → m ≤ n + fuel' → (∀ i, n ≤ i → i < m → rd' (s + i) = rd (s + i)) → recGo rd' s fuel' n all = some (b, m) := by
  intro fuel
  induction fuel with
  | zero => intro fuel' n all b m h; cases h
  | succ fuel ih =>
    intro fuel' n all b m h hm hr
    have hb := recGo_bounds rd s _ _ _ _ _ h
    cases fuel' with
    | zero => omega
    | succ fuel' =>
      simp only [recGo] at h ⊢
      rw [hr n (Nat.le_refl _) hb.1]
      cases hx : rd (s + n) with
      | none => rw [hx] at h; cases h
      | some x =>
        rw [hx] at h
        dsimp only at h ⊢
        split at h
        · cases h
        · rename_i h1
          rw [if_neg h1]
          split at h
          · rename_i h2
            rw [if_pos h2]
            exact ih fuel' (n + 1) _ b m h (by omega) (fun i h1 h2 => hr i (by omega) h2)
          · rename_i h2
            rw [if_neg h2]
            exact h

/-- the records ls stand from s up to e -/
def Stand (rd : Nat → Option (UInt8 × List UInt8)) : Nat → List (List UInt8) → Nat → Prop
  | s, [], e => s = e
  | s, b :: ls, e => ∃ n, recGo rd s n 0 [] = some (b, n) ∧ Stand rd (s + n) ls e

theorem Stand.le {rd : Nat → Option (UInt8 × List UInt8)} {ls : List (List UInt8)} {s e : Nat} (h : Stand rd s ls e) : s + ls.length ≤ e := by
  induction ls generalizing s with
  | nil => exact Nat.le_of_eq h
  | cons b ls ih =>
    obtain ⟨n, h1, h2⟩ := h
    have := (recGo_bounds _ _ _ _ _ _ _ h1).1
    have := ih h2
    simp only [List.length_cons]
    omega
theorem Stand.congr {rd rd' : Nat → Option (UInt8 × List UInt8)} {ls : List (List UInt8)} {s e : Nat} (h : Stand rd s ls e) (hr : ∀ i, s ≤ i → i < e → rd' i = rd i) : Stand rd' s ls e := by
  induction ls generalizing s with
  | nil => exact h
  | cons b ls ih =>
    obtain ⟨n, h1, h2⟩ := h
    have := h2.le
    exact ⟨n, recGo_congr rd rd' s _ _ _ _ _ _ h1 (by omega) (fun i _ hi => hr _ (by omega) (by omega)), ih h2 (fun i hi => hr i (by omega))⟩
theorem Stand.append {rd : Nat → Option (UInt8 × List UInt8)} {ls ms : List (List UInt8)} {s e f : Nat} (h : Stand rd s ls e) (k : Stand rd e ms f) : Stand rd s (ls ++ ms) f := by
  induction ls generalizing s with
  | nil => rw [show s = e from h]; exact k
  | cons b ls ih =>
    obtain ⟨n, h1, h2⟩ := h
    exact ⟨n, h1, ih h2⟩
theorem Stand.one {rd : Nat → Option (UInt8 × List UInt8)} {b : List UInt8} {s n : Nat} (h : recGo rd s n 0 [] = some (b, n)) : Stand rd s [b] (s + n) := ⟨n, h, rfl⟩
theorem Stand.split {rd : Nat → Option (UInt8 × List UInt8)} {ls ms : List (List UInt8)} {s f : Nat} (h : Stand rd s (ls ++ ms) f) : ∃ e, Stand rd s ls e ∧ Stand rd e ms f := by
  induction ls generalizing s with
  | nil => exact ⟨s, rfl, h⟩
  | cons b ls ih =>
    obtain ⟨n, h1, h2⟩ := h
    obtain ⟨e, h3, h4⟩ := ih h2
    exact ⟨e, ⟨n, h1, h3⟩, h4⟩

/-- the records that a journal reads -/
theorem recs_stand {J : Jr} {D : Dsk} {ls : List (List UInt8)} : ∀ {s e : Nat} (_ : Stand (J.rd D) s ls e) (_ : e ≤ J.start + J.size) (f : Nat) (_ : J.start + J.size ≤ f + s), J.recs D f s = (ls ++ (J.recs D (J.start + J.size) e).1, (J.recs D (J.start + J.size) e).2) := by
  induction ls with
  | nil =>
    intro s e h he f hf
    rw [show s = e from h, List.nil_append]
    rw [recs_fuel J D f (J.start + J.size) e (by rw [← show s = e from h]; exact hf) (by omega)]
  | cons b ls ih =>
    intro s e h he f hf
    obtain ⟨n, h1, h2⟩ := h
    have hb := recGo_bounds _ _ _ _ _ _ _ h1
    have hle := h2.le
    cases f with
    | zero => omega
    | succ f =>
      have hr : J.rec_ D s = some (b, n) := recGo_congr _ _ s _ _ _ _ _ _ h1 (by omega) (fun _ _ _ => rfl)
      simp only [Jr.recs, hr]
      rw [ih h2 he f (by omega)]
      rfl
theorem recs_end {J : Jr} {D : Dsk} {e : Nat} (h : J.rd D e = none) (f : Nat) : J.recs D f e = ([], e) := by
  cases f with
  | zero => rfl
  | succ f =>
    have : J.rec_ D e = none := by
      unfold Jr.rec_
      cases J.start + J.size - e with
      | zero => rfl
      | succ m => simp only [recGo, Nat.add_zero, h]
    simp only [Jr.recs, this]
/-- what recs reads stands -/
theorem recs_stands (J : Jr) (D : Dsk) : ∀ f s, s ≤ J.start + J.size → Stand (J.rd D) s (J.recs D f s).1 (J.recs D f s).2 := by
  intro f
  induction f with
  | zero => intro s _; exact rfl
  | succ f ih =>
    intro s hs
    cases hr : J.rec_ D s with
    | none => simp only [Jr.recs, hr]; exact rfl
    | some bn =>
      obtain ⟨b, n⟩ := bn
      have hb := rec_bounds hr
      simp only [Jr.recs, hr]
      exact ⟨n, recGo_congr _ _ s _ _ _ _ _ _ hr (by omega) (fun _ _ _ => rfl), ih _ (by omega)⟩
end Go.Proofs.Ytdinnkacilgmmaa
