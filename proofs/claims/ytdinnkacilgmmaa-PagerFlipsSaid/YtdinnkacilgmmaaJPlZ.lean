/- The journal, said plainly. -/
import Derived.Test.YtdinnkacilgmmaaJourZ
import Derived.Test.YtdinnkacilgmmaaRDiskZ
namespace Go.Proofs.Ytdinnkacilgmmaa
open Go.RowKit

/-! ### a sector -/
theorem secB_parts (s : Nat) (f : UInt8) (p : List UInt8) (hs : s < 18446744073709551616) :
    unle ((secB s f p).take 4) = (crc ((secB s f p).drop 4)).toNat ∧ unle (((secB s f p).drop 4).take 8) = s ∧ (secB s f p).getD 12 0 = f ∧ (secB s f p).getD 13 0 = UInt8.ofNat p.length ∧ ((secB s f p).drop 14).take p.length = p := by
  have ht : (secB s f p).take 4 = le 4 (crc (body s f p)).toNat := List.take_left' (le_length _ _)
  have hd : (secB s f p).drop 4 = body s f p := List.drop_left' (le_length _ _)
  have hb8 : (body s f p).take 8 = le 8 s := by unfold body; rw [List.append_assoc, List.append_assoc]; exact List.take_left' (le_length _ _)
  have hb10 : (body s f p).drop 10 = p ++ List.replicate (242 - p.length) 0 := by unfold body; rw [List.append_assoc]; exact List.drop_left' (by simp [le_length])
  have hlt := (crc (body s f p)).isLt
  refine ⟨?_, ?_, ?_, ?_, ?_⟩
  · rw [ht, hd, unle_le]; exact Nat.mod_eq_of_lt (by omega)
  · rw [hd, hb8, unle_le]; exact Nat.mod_eq_of_lt (by omega)
  · simp [secB, body, List.getD_eq_getElem?_getD, List.getElem?_append, le_length]
  · simp [secB, body, List.getD_eq_getElem?_getD, List.getElem?_append, le_length]
  · rw [show 14 = 4 + 10 from rfl, ← List.drop_drop, hd, hb10]; exact List.take_left' rfl
theorem right_secB (s : Nat) (f : UInt8) (p : List UInt8) (hs : s < 18446744073709551616) (hf : f.toNat ≤ 3) (h1 : 1 ≤ p.length) (h2 : p.length ≤ 242) : right (secB s f p) s = some (f, p) := by
  obtain ⟨a1, a2, a3, a4, a5⟩ := secB_parts s f p hs
  have hn : (UInt8.ofNat p.length).toNat = p.length := by rw [UInt8.toNat_ofNat']; omega
  unfold right
  rw [a3, a4, hn, a5, if_pos]
  refine ⟨a1, a2, ?_, ?_, ?_⟩
  · rw [UInt8.le_iff_toNat_le]; exact hf
  · rw [UInt8.le_iff_toNat_le, hn]; exact h1
  · rw [UInt8.le_iff_toNat_le, hn]; exact h2
theorem right_num {b : List UInt8} {s : Nat} {x : UInt8 × List UInt8} (h : right b s = some x) : unle ((b.drop 4).take 8) = s := by
  unfold right at h
  split at h
  · rename_i hc; exact hc.2.1
  · cases h
theorem right_secB_ne (s s' : Nat) (f : UInt8) (p : List UInt8) (hs : s < 18446744073709551616) (hne : s' ≠ s) : right (secB s f p) s' = none := by
  cases h : right (secB s f p) s' with
  | none => rfl
  | some x => exact absurd ((right_num h).symm.trans (secB_parts s f p hs).2.1) hne
theorem unle_zeros (n : Nat) : unle (List.replicate n 0) = 0 := by
  induction n with
  | zero => rfl
  | succ n ih => rw [List.replicate_succ, unle, ih]; rfl
theorem right_zeros (n s : Nat) (hs : 1 ≤ s) : right (List.replicate n 0) s = none := by
  cases h : right (List.replicate n 0) s with
  | none => rfl
  | some x =>
    have := right_num h
    rw [List.drop_replicate, List.take_replicate, unle_zeros] at this
    omega

/-! ### records, by what a reader reads -/
theorem recGo_congr (rd rd' : Nat → Option (UInt8 × List UInt8)) (s : Nat) : ∀ (fuel fuel' n : Nat) (all b : List UInt8) (m : Nat), recGo rd s fuel n all = some (b, m) → m ≤ n + fuel' → (∀ i, n ≤ i → i < m → rd' (s + i) = rd (s + i)) → recGo rd' s fuel' n all = some (b, m) := by
  intro fuel
  induction fuel with
  | zero => intro fuel' n all b m h; cases h
  | succ fuel ih =>
    intro fuel' n all b m h hm hr
    have hb := recGo_bounds rd s _ _ _ _ _ h
    cases fuel' with
    | zero => omega
    | succ fuel' =>
      simp only [recGo] at h ⊢
      rw [hr n (Nat.le_refl _) hb.1]
      cases hx : rd (s + n) with
      | none => rw [hx] at h; cases h
      | some x =>
        rw [hx] at h
        dsimp only at h ⊢
        split at h
        · cases h
        · rename_i h1
          rw [if_neg h1]
          split at h
          · rename_i h2
            rw [if_pos h2]
            exact ih fuel' (n + 1) _ b m h (by omega) (fun i h1 h2 => hr i (by omega) h2)
          · rename_i h2
            rw [if_neg h2]
            exact h

/-- the records ls stand from s up to e -/
def Stand (rd : Nat → Option (UInt8 × List UInt8)) : Nat → List (List UInt8) → Nat → Prop
  | s, [], e => s = e
  | s, b :: ls, e => ∃ n, recGo rd s n 0 [] = some (b, n) ∧ Stand rd (s + n) ls e

theorem Stand.le {rd : Nat → Option (UInt8 × List UInt8)} {ls : List (List UInt8)} {s e : Nat} (h : Stand rd s ls e) : s + ls.length ≤ e := by
  induction ls generalizing s with
  | nil => exact Nat.le_of_eq h
  | cons b ls ih =>
    obtain ⟨n, h1, h2⟩ := h
    have := (recGo_bounds _ _ _ _ _ _ _ h1).1
    have := ih h2
    simp only [List.length_cons]
    omega
theorem Stand.congr {rd rd' : Nat → Option (UInt8 × List UInt8)} {ls : List (List UInt8)} {s e : Nat} (h : Stand rd s ls e) (hr : ∀ i, s ≤ i → i < e → rd' i = rd i) : Stand rd' s ls e := by
  induction ls generalizing s with
  | nil => exact h
  | cons b ls ih =>
    obtain ⟨n, h1, h2⟩ := h
    have := h2.le
    exact ⟨n, recGo_congr rd rd' s _ _ _ _ _ _ h1 (by omega) (fun i _ hi => hr _ (by omega) (by omega)), ih h2 (fun i hi => hr i (by omega))⟩
theorem Stand.append {rd : Nat → Option (UInt8 × List UInt8)} {ls ms : List (List UInt8)} {s e f : Nat} (h : Stand rd s ls e) (k : Stand rd e ms f) : Stand rd s (ls ++ ms) f := by
  induction ls generalizing s with
  | nil => rw [show s = e from h]; exact k
  | cons b ls ih =>
    obtain ⟨n, h1, h2⟩ := h
    exact ⟨n, h1, ih h2⟩
theorem Stand.one {rd : Nat → Option (UInt8 × List UInt8)} {b : List UInt8} {s n : Nat} (h : recGo rd s n 0 [] = some (b, n)) : Stand rd s [b] (s + n) := ⟨n, h, rfl⟩
theorem Stand.split {rd : Nat → Option (UInt8 × List UInt8)} {ls ms : List (List UInt8)} {s f : Nat} (h : Stand rd s (ls ++ ms) f) : ∃ e, Stand rd s ls e ∧ Stand rd e ms f := by
  induction ls generalizing s with
  | nil => exact ⟨s, rfl, h⟩
  | cons b ls ih =>
    obtain ⟨n, h1, h2⟩ := h
    obtain ⟨e, h3, h4⟩ := ih h2
    exact ⟨e, ⟨n, h1, h3⟩, h4⟩

/-- the records that a journal reads -/
theorem recs_stand {J : Jr} {D : Dsk} {ls : List (List UInt8)} : ∀ {s e : Nat} (_ : Stand (J.rd D) s ls e) (_ : e ≤ J.start + J.size) (f : Nat) (_ : J.start + J.size ≤ f + s), J.recs D f s = (ls ++ (J.recs D (J.start + J.size) e).1, (J.recs D (J.start + J.size) e).2) := by
  induction ls with
  | nil =>
    intro s e h he f hf
    rw [show s = e from h, List.nil_append]
    rw [recs_fuel J D f (J.start + J.size) e (by rw [← show s = e from h]; exact hf) (by omega)]
  | cons b ls ih =>
    intro s e h he f hf
    obtain ⟨n, h1, h2⟩ := h
    have hb := recGo_bounds _ _ _ _ _ _ _ h1
    have hle := h2.le
    cases f with
    | zero => omega
    | succ f =>
      have hr : J.rec_ D s = some (b, n) := recGo_congr _ _ s _ _ _ _ _ _ h1 (by omega) (fun _ _ _ => rfl)
      simp only [Jr.recs, hr]
      rw [ih h2 he f (by omega)]
      rfl
theorem recs_end {J : Jr} {D : Dsk} {e : Nat} (h : J.rd D e = none) (f : Nat) : J.recs D f e = ([], e) := by
  cases f with
  | zero => rfl
  | succ f =>
    have : J.rec_ D e = none := by
      unfold Jr.rec_
      cases J.start + J.size - e with
      | zero => rfl
      | succ m => simp only [recGo, Nat.add_zero, h]
    simp only [Jr.recs, this]
/-- what recs reads stands -/
theorem recs_stands (J : Jr) (D : Dsk) : ∀ f s, s ≤ J.start + J.size → Stand (J.rd D) s (J.recs D f s).1 (J.recs D f s).2 := by
  intro f
  induction f with
  | zero => intro s _; exact rfl
  | succ f ih =>
    intro s hs
    cases hr : J.rec_ D s with
    | none => simp only [Jr.recs, hr]; exact rfl
    | some bn =>
      obtain ⟨b, n⟩ := bn
      have hb := rec_bounds hr
      simp only [Jr.recs, hr]
      exact ⟨n, recGo_congr _ _ s _ _ _ _ _ _ hr (by omega) (fun _ _ _ => rfl), ih _ (by omega)⟩
end Go.Proofs.Ytdinnkacilgmmaa
namespace Go.Proofs.Ytdinnkacilgmmaa
open Go.RowKit

/-! ### writes -/
def Dsk.push (D : Dsk) (l : List (Nat × List UInt8)) : Dsk := { D with l := D.l ++ l }
theorem layAll_append (s : List UInt8) (l m : List (Nat × List UInt8)) : layAll s (l ++ m) = layAll (layAll s l) m := by simp [layAll]
theorem push_now (D : Dsk) (l : List (Nat × List UInt8)) : (D.push l).now = layAll D.now l := layAll_append _ _ _
theorem sec_off (l : List (Nat × List UInt8)) (m : Nat) : ∀ (s : List UInt8), (∀ x ∈ l, x.1 * 256 + 256 ≤ s.length ∧ x.2.length = 256) → (∀ x ∈ l, x.1 ≠ m) → sector (layAll s l) m = sector s m := by
  induction l with
  | nil => intro s _ _; rfl
  | cons x r ih =>
    intro s h1 h2
    obtain ⟨h3, h4⟩ := h1 x List.mem_cons_self
    have hlen := lay_length s x.1 x.2 (by omega)
    show sector (layAll (lay s x.1 x.2) r) m = _
    rw [ih _ (fun y hy => by rw [hlen]; exact h1 y (List.mem_cons_of_mem _ hy)) (fun y hy => h2 y (List.mem_cons_of_mem _ hy))]
    exact sector_lay_off s x.1 m x.2 (by omega) (by omega) (Ne.symm (h2 x List.mem_cons_self))
theorem sec_at (l : List (Nat × List UInt8)) : ∀ (s : List UInt8), (∀ x ∈ l, x.1 * 256 + 256 ≤ s.length ∧ x.2.length = 256) → (l.map (·.1)).Nodup → ∀ x ∈ l, sector (layAll s l) x.1 = x.2 := by
  induction l with
  | nil => intro s _ _ x hx; cases hx
  | cons y r ih =>
    intro s h1 h2 x hx
    obtain ⟨h3, h4⟩ := h1 y List.mem_cons_self
    have hlen := lay_length s y.1 y.2 (by omega)
    rw [List.map_cons, List.nodup_cons] at h2
    have h1' : ∀ z ∈ r, z.1 * 256 + 256 ≤ (lay s y.1 y.2).length ∧ z.2.length = 256 := fun z hz => by rw [hlen]; exact h1 z (List.mem_cons_of_mem _ hz)
    show sector (layAll (lay s y.1 y.2) r) x.1 = _
    rcases List.mem_cons.1 hx with e | e
    · subst e
      rw [sec_off r x.1 _ h1' (fun z hz e => h2.1 (List.mem_map.2 ⟨z, hz, e⟩))]
      exact sector_lay_at s x.1 x.2 h3 h4
    · exact ih _ h1' h2.2 x e

theorem place_inj (J : Jr) {s s' : Nat} (hs : 1 ≤ s) (hle : s ≤ s') (hlt : s' < s + J.size) (h : J.place s = J.place s') : s = s' := by
  unfold Jr.place at h
  have h1 : (s' - 1) % J.size = (s - 1) % J.size := by omega
  have h2 := Nat.sub_mod_eq_zero_of_mod_eq h1
  have h3 := Nat.eq_zero_of_dvd_of_lt (Nat.dvd_of_mod_eq_zero h2) (by omega)
  omega
theorem place_lt (J : Jr) (hz : 1 ≤ J.size) {N : Nat} (hf : J.frm + J.size ≤ N) (s : Nat) : J.place s < N := by
  have := Nat.mod_lt (s - 1) (show 0 < J.size by omega)
  unfold Jr.place
  omega

/-! ### what Append does -/
/-- the bytes that are laid, ahead of their cutting -/
def apAll (b : List UInt8) : List UInt8 := le 4 (crc b).toNat ++ b
def apN (b : List UInt8) : Nat := (b.length + 245) / 242
def apPiece (b : List UInt8) (k : Nat) : List UInt8 := ((apAll b).drop (242 * k)).take 242
def apFlag (b : List UInt8) (k : Nat) : UInt8 := (if k = 0 then 1 else 0) ||| (if k + 1 = apN b then 2 else 0)
def apWrites (J : Jr) (b : List UInt8) (pre : List Nat) : List (Nat × List UInt8) := pre.mapIdx fun i x => (J.place (J.next + i), secB (J.next + i) (apFlag b i) (apPiece b x))
def Jr.whyApp (J : Jr) (b : List UInt8) : Int := if J.dead = true then 21 else if 8192 < b.length then 3 else if J.start + J.size < J.next + apN b then 4 else 0
def Jr.app (J : Jr) (b : List UInt8) : Jr := if J.whyApp b = 0 then { J with next := J.next + apN b } else J
def Jr.appD (J : Jr) (D : Dsk) (b : List UInt8) : Dsk := if J.whyApp b = 0 then D.push (apWrites J b (List.range (apN b))) else D

theorem apAll_length (b : List UInt8) : (apAll b).length = b.length + 4 := by simp [apAll, le_length]; omega
theorem apN_pos (b : List UInt8) : 1 ≤ apN b := by unfold apN; omega
theorem apPiece_length (b : List UInt8) (k : Nat) : (apPiece b k).length = min 242 (b.length + 4 - 242 * k) := by
  unfold apPiece; rw [List.length_take, List.length_drop, apAll_length]
theorem apFlag_val (b : List UInt8) (k : Nat) : (apFlag b k).toNat = (if k = 0 then 1 else 0) + (if k + 1 = apN b then 2 else 0) := by
  unfold apFlag
  split <;> split <;> rfl
theorem apWrites_snoc (J : Jr) (b : List UInt8) (pre : List Nat) (x : Nat) : apWrites J b (pre ++ [x]) = apWrites J b pre ++ [(J.place (J.next + pre.length), secB (J.next + pre.length) (apFlag b pre.length) (apPiece b x))] := by
  unfold apWrites; rw [List.mapIdx_append]; simp

section
variable {J : Jr} {D : Dsk} {b : List UInt8}

theorem apWrites_mem (n : Nat) {x : Nat × List UInt8} (h : x ∈ apWrites J b (List.range n)) : ∃ i, i < n ∧ x = (J.place (J.next + i), secB (J.next + i) (apFlag b i) (apPiece b i)) := by
  unfold apWrites at h
  rw [List.mem_mapIdx] at h
  obtain ⟨i, hi, rfl⟩ := h
  simp only [List.length_range] at hi
  exact ⟨i, hi, by rw [List.getElem_range]⟩
theorem apWrites_has (n i : Nat) (h : i < n) : (J.place (J.next + i), secB (J.next + i) (apFlag b i) (apPiece b i)) ∈ apWrites J b (List.range n) := by
  unfold apWrites
  rw [List.mem_mapIdx]
  exact ⟨i, by simpa using h, by simp⟩
theorem apWrites_length (n : Nat) : (apWrites J b (List.range n)).length = n := by simp [apWrites]
theorem apPiece_le (b : List UInt8) (k : Nat) : (apPiece b k).length ≤ 242 := by rw [apPiece_length]; omega
theorem apWrites_fit (hw : D.wf) (hz : 1 ≤ J.size) (hf : J.frm + J.size ≤ D.N) (n : Nat) : ∀ x ∈ apWrites J b (List.range n), x.1 < D.N ∧ x.1 * 256 + 256 ≤ D.now.length ∧ x.2.length = 256 := by
  intro x hx
  obtain ⟨i, -, rfl⟩ := apWrites_mem n hx
  have := place_lt J hz hf (J.next + i)
  refine ⟨this, ?_, secB_length _ _ _ (apPiece_le b i)⟩
  rw [hw.now, hw.len]
  show J.place _ * 256 + 256 ≤ _
  omega
theorem apWrites_nodup (hn : 1 ≤ J.next) (n : Nat) (hle : n ≤ J.size) : ((apWrites J b (List.range n)).map (·.1)).Nodup := by
  rw [List.nodup_iff_pairwise_ne, List.pairwise_iff_getElem]
  intro i j hi hj hij he
  simp only [List.length_map, apWrites_length] at hi hj
  simp only [List.getElem_map, apWrites, List.getElem_mapIdx] at he
  have := place_inj J (s := J.next + i) (s' := J.next + j) (by omega) (by omega) (by omega) he
  omega

/-- what is read behind the writes -/
theorem rd_new (hw : D.wf) (hz : 1 ≤ J.size) (hf : J.frm + J.size ≤ D.N) (hn : 1 ≤ J.next) (hb : J.next + J.size < 18446744073709551616) (n : Nat) (hle : n ≤ J.size) (hnb : n ≤ apN b) (k : Nat) (hk : k < n) :
    J.rd (D.push (apWrites J b (List.range n))) (J.next + k) = some (apFlag b k, apPiece b k) := by
  have hfit := apWrites_fit (b := b) hw hz hf n
  unfold Jr.rd
  rw [push_now, sec_at _ D.now (fun x hx => (hfit x hx).2) (apWrites_nodup hn n hle) _ (apWrites_has n k hk)]
  refine right_secB _ _ _ (by omega) ?_ ?_ (apPiece_le b k)
  · rw [apFlag_val]; split <;> split <;> decide
  · rw [apPiece_length]; unfold apN at hnb; omega
theorem rd_old (hw : D.wf) (hz : 1 ≤ J.size) (hf : J.frm + J.size ≤ D.N) (n s : Nat) (h1 : 1 ≤ s) (h2 : s < J.next) (h3 : J.next + n ≤ s + J.size) :
    J.rd (D.push (apWrites J b (List.range n))) s = J.rd D s := by
  have hfit := apWrites_fit (b := b) hw hz hf n
  unfold Jr.rd
  rw [push_now, sec_off _ _ _ (fun x hx => (hfit x hx).2) ?_]
  intro x hx e
  obtain ⟨i, hi, rfl⟩ := apWrites_mem n hx
  have := place_inj J h1 (s' := J.next + i) (by omega) (by omega) e.symm
  omega
theorem rd_clean (hw : D.wf) (hz : 1 ≤ J.size) (hf : J.frm + J.size ≤ D.N) (hn : 1 ≤ J.next) (hb : J.next + J.size < 18446744073709551616) (n : Nat) (hle : n ≤ J.size) (s : Nat) (h1 : J.next + n ≤ s) (h2 : J.rd D s = none) :
    J.rd (D.push (apWrites J b (List.range n))) s = none := by
  have hfit := apWrites_fit (b := b) hw hz hf n
  unfold Jr.rd at *
  rw [push_now]
  by_cases h : ∃ x ∈ apWrites J b (List.range n), x.1 = J.place s
  · obtain ⟨x, hx, e⟩ := h
    have hs := sec_at _ D.now (fun x hx => (hfit x hx).2) (apWrites_nodup hn n hle) x hx
    obtain ⟨i, hi, rfl⟩ := apWrites_mem n hx
    rw [← e, hs]
    exact right_secB_ne _ _ _ _ (by omega) (by omega)
  · rw [sec_off _ _ _ (fun x hx => (hfit x hx).2) (fun x hx e => h ⟨x, hx, e⟩)]
    exact h2

theorem app_reads (rd : Nat → Option (UInt8 × List UInt8)) (s : Nat) (hbl : b.length ≤ 8192) (hr : ∀ k, k < apN b → rd (s + k) = some (apFlag b k, apPiece b k)) : ∀ m k, k + m = apN b → recGo rd s m k ((apAll b).take (242 * k)) = if m = 0 then none else some (b, apN b) := by
  intro m
  induction m with
  | zero => intro k _; rfl
  | succ m ih =>
    intro k hk
    have hap : (apAll b).take (242 * k) ++ apPiece b k = (apAll b).take (242 * (k + 1)) := by
      unfold apPiece
      rw [Nat.mul_add, Nat.mul_one, List.take_add]
    simp only [recGo, hr k (by omega), apFlag_val, hap]
    have hodd : (decide (((if k = 0 then 1 else 0) + (if k + 1 = apN b then 2 else 0)) % 2 = 1) != decide (k = 0)) = false := by
      by_cases h0 : k = 0
      · rw [if_pos h0]; split <;> simp [h0]
      · rw [if_neg h0]; split <;> simp [h0]
    rw [hodd, if_neg (by decide), if_neg (show ¬ m + 1 = 0 by omega)]
    by_cases hm : m = 0
    · subst hm
      have hle : (apAll b).length ≤ 242 * (k + 1) := by rw [apAll_length]; unfold apN at hk; omega
      have h2 : ¬ (if k = 0 then 1 else 0) + (if k + 1 = apN b then 2 else 0) < 2 := by rw [if_pos (show k + 1 = apN b by omega)]; omega
      rw [List.take_of_length_le hle, if_neg h2, if_pos, show k + 1 = apN b by omega]
      · unfold apAll; rw [List.drop_left' (le_length _ _)]
      · have := (crc b).isLt
        refine ⟨by rw [apAll_length]; omega, by rw [apAll_length]; omega, ?_⟩
        unfold apAll
        rw [List.take_left' (le_length _ _), List.drop_left' (le_length _ _), unle_le]
        exact Nat.mod_eq_of_lt (by omega)
    · have h2 : (if k = 0 then 1 else 0) + (if k + 1 = apN b then 2 else 0) < 2 := by rw [if_neg (show ¬ k + 1 = apN b by omega)]; split <;> omega
      rw [if_pos h2, ih (k + 1) (by omega), if_neg hm]
theorem app_rec (rd : Nat → Option (UInt8 × List UInt8)) (s : Nat) (hbl : b.length ≤ 8192) (hr : ∀ k, k < apN b → rd (s + k) = some (apFlag b k, apPiece b k)) : recGo rd s (apN b) 0 [] = some (b, apN b) := by
  have := app_reads rd s hbl hr (apN b) 0 (by omega)
  rw [if_neg (by have := apN_pos b; omega)] at this
  simpa using this
end

/-! ### a journal on a disk that does not fail -/
structure JInv (J : Jr) (D : Dsk) (ls : List (List UInt8)) : Prop where
  wf : D.wf
  fine : D.fine
  live : J.dead = false
  s1 : 1 ≤ J.start
  s2 : J.start ≤ J.next
  s3 : J.next ≤ J.start + J.size
  top : J.start + J.size ≤ 2305843009213693952
  z : 1 ≤ J.size
  fit : J.frm + J.size ≤ D.N
  stand : Stand (J.rd D) J.start ls J.next
  clean : ∀ s, J.next ≤ s → J.rd D s = none

theorem push_wf {D : Dsk} (h : D.wf) (l : List (Nat × List UInt8)) (hl : ∀ x ∈ l, x.1 < D.N ∧ x.2.length = 256) : (D.push l).wf :=
  ⟨h.len, h.pos, h.top, fun x hx => (List.mem_append.1 hx).elim (h.l x) (hl x)⟩

section
variable {J : Jr} {D : Dsk} {ls : List (List UInt8)}

theorem JInv.why (_h : JInv J D ls) (b : List UInt8) (hb : b.length ≤ 8192) : J.whyApp b = if J.start + J.size < J.next + apN b then 4 else 0 := by
  unfold Jr.whyApp
  rw [if_neg (by rw [_h.live]; decide), if_neg (by omega)]
theorem JInv.app (h : JInv J D ls) (b : List UInt8) : JInv (J.app b) (J.appD D b) (if J.whyApp b = 0 then ls ++ [b] else ls) := by
  unfold Jr.app Jr.appD
  by_cases hw : J.whyApp b = 0
  · rw [if_pos hw, if_pos hw, if_pos hw]
    have hb : b.length ≤ 8192 ∧ J.next + apN b ≤ J.start + J.size := by
      unfold Jr.whyApp at hw
      rw [if_neg (by rw [h.live]; decide)] at hw
      split at hw
      · cases hw
      split at hw
      · cases hw
      omega
    have hz := h.z
    have h1 := h.s1
    have h2 := h.s2
    have h3 := h.s3
    have ht := h.top
    have hn := apN_pos b
    have e1 : ∀ s, ({ J with next := J.next + apN b } : Jr).rd (D.push (apWrites J b (List.range (apN b)))) s = J.rd (D.push (apWrites J b (List.range (apN b)))) s := fun _ => rfl
    have hfit := apWrites_fit (J := J) (b := b) h.wf hz h.fit (apN b)
    refine ⟨push_wf h.wf _ (fun x hx => ⟨(hfit x hx).1, (hfit x hx).2.2⟩), ⟨h.fine.bad, h.fine.full, h.fine.gone⟩, h.live, h1, by show J.start ≤ J.next + _; omega, hb.2, ht, hz, h.fit, ?_, ?_⟩
    · refine Stand.append (e := J.next) (h.stand.congr (fun i hi hi2 => ?_)) (Stand.one (app_rec _ _ hb.1 (fun k hk => ?_)))
      · rw [e1]; exact rd_old h.wf hz h.fit (apN b) i (by omega) hi2 (by omega)
      · rw [e1]; exact rd_new h.wf hz h.fit (by omega) (by omega) (apN b) (by omega) (Nat.le_refl _) k hk
    · intro s hs
      have hs' : J.next + apN b ≤ s := hs
      rw [e1]; exact rd_clean h.wf hz h.fit (by omega) (by omega) (apN b) (by omega) s hs' (h.clean s (by omega))
  · rw [if_neg hw, if_neg hw, if_neg hw]; exact h
theorem sync_now {D : Dsk} (h : D.fine) : D.sync.now = D.now ∧ D.sync.l = [] ∧ D.sync.safe = D.now ∧ D.sync.fine := by
  unfold Dsk.sync
  rw [if_neg (by rw [h.gone]; decide), if_neg (by rw [h.bad]; decide)]
  exact ⟨rfl, rfl, rfl, ⟨h.bad, h.full, h.gone⟩⟩
theorem JInv.same (h : JInv J D ls) {D' : Dsk} (hw : D'.wf) (hf : D'.fine) (hn : D'.now = D.now) : JInv J D' ls := by
  have hN : D'.N = D.N := by
    unfold Dsk.N
    rw [← hw.now, ← h.wf.now, hn]
  have e : J.rd D' = J.rd D := by funext s; unfold Jr.rd; rw [hn]
  exact ⟨hw, hf, h.live, h.s1, h.s2, h.s3, h.top, h.z, by rw [hN]; exact h.fit, by rw [e]; exact h.stand, by rw [e]; exact h.clean⟩
theorem JInv.sync (h : JInv J D ls) : JInv J D.sync ls := h.same h.wf.sync (sync_now h.fine).2.2.2 (sync_now h.fine).1
theorem JInv.trimmed (h : JInv J D ls) (ht : J.next + J.size ≤ 2305843009213693952) : JInv { J with start := J.next } D [] := by
  have hz := h.z
  have h1 := h.s1
  have h2 := h.s2
  exact ⟨h.wf, h.fine, h.live, by show 1 ≤ J.next; omega, Nat.le_refl _, by show J.next ≤ J.next + J.size; omega, ht, hz, h.fit, rfl, h.clean⟩

theorem scrub_clean (J : Jr) (D : Dsk) (hc : ∀ s, J.next ≤ s → J.rd D s = none) : J.scrub D = D := by
  have : ∀ n, scrubGo J D n = (D, false) := by
    intro n
    induction n with
    | zero => rfl
    | succ n ih => simp only [scrubGo, ih, hc (J.next + n) (by omega)]; rfl
  unfold Jr.scrub
  rw [this]
  rfl
/-- opened again -/
theorem JInv.open (h : JInv J D ls) : Jr.opened J.frm J.size J.start D = J ∧ openRecs J.frm J.size J.start D = ls ∧ J.scrub D = D := by
  obtain ⟨J0, hJ0⟩ : ∃ J0 : Jr, J0 = ⟨J.frm, J.size, J.start, J.start, false⟩ := ⟨_, rfl⟩
  have hs : Stand (J0.rd D) J0.start ls J.next := by rw [hJ0]; exact h.stand
  have hr := recs_stand (J := J0) hs (by rw [hJ0]; exact h.s3) (J.size + 1) (by rw [hJ0]; show J.start + J.size ≤ _ + J.start; omega)
  have he : J0.rd D J.next = none := by rw [hJ0]; exact h.clean _ (Nat.le_refl _)
  rw [recs_end he] at hr
  have hr2 : J0.recs D (J.size + 1) J.start = (ls, J.next) := by
    have : J0.start = J.start := by rw [hJ0]
    rw [this] at hr
    rw [hr, List.append_nil]
  refine ⟨?_, ?_, scrub_clean J D h.clean⟩
  · unfold Jr.opened
    rw [← hJ0, hr2]
    have := h.live
    cases J
    simp only at this ⊢
    rw [this]
  · unfold openRecs
    rw [← hJ0, hr2]
end

/-- on a disk of noughts -/
theorem JInv.new (N frm size next : Nat) (hN1 : 1 ≤ N) (hN : N ≤ 4096) (hz : 1 ≤ size) (hf : frm + size ≤ N) (hn : 1 ≤ next) (ht : next + size ≤ 2305843009213693952) :
    JInv ⟨frm, size, next, next, false⟩ (Dsk.of (List.replicate (N * 256) 0)) [] := by
  have hNN : (Dsk.of (List.replicate (N * 256) 0)).N = N := by simp [Dsk.of, Dsk.N]
  refine ⟨⟨?_, ?_, ?_, fun x hx => ?_⟩, ⟨rfl, rfl, rfl⟩, rfl, hn, Nat.le_refl _, Nat.le_add_right _ _, ht, hz, ?_, rfl, ?_⟩
  · rw [hNN]; simp [Dsk.of]
  · rw [hNN]; exact hN1
  · rw [hNN]; exact hN
  · simp [Dsk.of] at hx
  · rw [hNN]; exact hf
  · intro s hs
    have hs1 : next ≤ s := hs
    unfold Jr.rd
    have : ∀ m, sector (Dsk.of (List.replicate (N * 256) 0)).now m = List.replicate (min 256 (N * 256 - m * 256)) 0 := by
      intro m
      show sector (List.replicate (N * 256) 0) m = _
      unfold sector
      rw [List.drop_replicate, List.take_replicate]
    rw [this]
    exact right_zeros _ _ (by omega)
end Go.Proofs.Ytdinnkacilgmmaa
