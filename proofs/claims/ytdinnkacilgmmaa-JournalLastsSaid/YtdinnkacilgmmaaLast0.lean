/- JournalLasts, said plainly: what a crash leaves of numbers, what a scrub does. -/
import Derived.Test.YtdinnkacilgmmaaJPlZ
import Derived.Test.YtdinnkacilgmmaaRDiskZ
namespace Go.Proofs.Ytdinnkacilgmmaa
open Go.RowKit

/-! ### the numbers in the sectors -/
/-- a sector's number is its own or nought -/
def NumS (n : Nat) (c : List UInt8) : Prop := (c[4]? = some 0 ∨ c[4]? = some (UInt8.ofNat (n + 1))) ∧ ∀ j, 5 ≤ j → j < 12 → c[j]? = some 0
def NumB (t : List UInt8) : Prop := ∀ i, i < 12 → NumS i (sector t i)

theorem numS_zeros (n : Nat) : NumS n (List.replicate 256 0) := ⟨.inl (by rw [List.getElem?_replicate, if_pos (by omega)]), fun j _ h2 => by rw [List.getElem?_replicate, if_pos (by omega)]⟩
theorem le8_small (s : Nat) (h : s < 256) : le 8 s = [UInt8.ofNat s, 0, 0, 0, 0, 0, 0, 0] := by
  simp only [le, Nat.div_eq_of_lt h, Nat.zero_div]
  rfl
theorem numS_secB (s : Nat) (f : UInt8) (p : List UInt8) (h1 : 1 ≤ s) (h2 : s ≤ 12) : NumS (s - 1) (secB s f p) := by
  have e : secB s f p = le 4 (crc (body s f p)).toNat ++ ([UInt8.ofNat s, 0, 0, 0, 0, 0, 0, 0] ++ ([f, UInt8.ofNat p.length] ++ p ++ List.replicate (242 - p.length) 0)) := by
    unfold secB
    conv => lhs; rhs; unfold body
    rw [le8_small s (by omega)]
    simp only [List.append_assoc]
  have g : ∀ j, 4 ≤ j → j < 12 → (secB s f p)[j]? = [UInt8.ofNat s, (0 : UInt8), 0, 0, 0, 0, 0, 0][j - 4]? := fun j h3 h4 => by
    rw [e, List.getElem?_append_right (by rw [le_length]; omega), le_length, List.getElem?_append_left (by simp; omega)]
  refine ⟨.inr ?_, fun j h3 h4 => ?_⟩
  · rw [g 4 (by omega) (by omega), show s - 1 + 1 = s by omega]; rfl
  · rw [g j (by omega) h4]
    have : j = 5 ∨ j = 6 ∨ j = 7 ∨ j = 8 ∨ j = 9 ∨ j = 10 ∨ j = 11 := by omega
    rcases this with e | e | e | e | e | e | e <;> subst e <;> rfl
theorem numS_unle {n : Nat} {c : List UInt8} (h : NumS n c) (hn : n < 12) (hc : c.length = 256) : unle ((c.drop 4).take 8) = 0 ∨ unle ((c.drop 4).take 8) = n + 1 := by
  obtain ⟨h4, h5⟩ := h
  have e : ∃ x, (c.drop 4).take 8 = [x, 0, 0, 0, 0, 0, 0, 0] ∧ (x = 0 ∨ x = UInt8.ofNat (n + 1)) := by
    obtain ⟨x, hx⟩ : ∃ x, c[4]? = some x := ⟨c[4]'(by omega), List.getElem?_eq_getElem _⟩
    refine ⟨x, ?_, by rw [hx] at h4; simpa using h4⟩
    apply List.ext_getElem?
    intro j
    rw [List.getElem?_take, List.getElem?_drop]
    by_cases hj : j < 8
    · rw [if_pos hj]
      by_cases h0 : j = 0
      · subst h0; exact hx
      · rw [h5 (4 + j) (by omega) (by omega)]
        have : j = 1 ∨ j = 2 ∨ j = 3 ∨ j = 4 ∨ j = 5 ∨ j = 6 ∨ j = 7 := by omega
        rcases this with e | e | e | e | e | e | e <;> subst e <;> rfl
    · rw [if_neg hj, List.getElem?_eq_none (by simp; omega)]
  obtain ⟨x, e, hx⟩ := e
  rw [e]
  rcases hx with rfl | rfl
  · left; rfl
  · right
    have : (UInt8.ofNat (n + 1)).toNat = n + 1 := by rw [UInt8.toNat_ofNat']; omega
    simp only [unle, this]
    rfl
theorem numS_right {n s : Nat} {c : List UInt8} (h : NumS n c) (hn : n < 12) (hc : c.length = 256) (hs : 1 ≤ s) (hne : s ≠ n + 1) : right c s = none := by
  cases hr : right c s with
  | none => rfl
  | some x =>
    have := right_num hr
    rcases numS_unle h hn hc with e | e <;> omega

theorem numS_torn {n : Nat} {c d : List UInt8} (hc : NumS n c) (hd : NumS n d) (k : Nat) (hk : k ≤ c.length) : NumS n (c.take k ++ d.drop k) := by
  have g : ∀ j, (c.take k ++ d.drop k)[j]? = if j < k then c[j]? else d[j]? := fun j => by
    rw [List.getElem?_append, List.length_take, Nat.min_eq_left hk]
    by_cases h : j < k
    · rw [if_pos h, if_pos h, List.getElem?_take, if_pos h]
    · rw [if_neg h, if_neg h, List.getElem?_drop]; congr 1; omega
  refine ⟨?_, fun j h1 h2 => ?_⟩
  · rw [g]
    split
    · exact hc.1
    · exact hd.1
  · rw [g]
    split
    · exact hc.2 j h1 h2
    · exact hd.2 j h1 h2

/-- the writes keep to the numbers, from the sector m on -/
def NumL (m : Nat) (l : List (Nat × List UInt8)) : Prop := ∀ x ∈ l, m ≤ x.1 ∧ x.1 < 12 ∧ x.2.length = 256 ∧ NumS x.1 x.2

theorem sector_len12 {t : List UInt8} (ht : t.length = 12 * 256) (i : Nat) (hi : i < 12) : (sector t i).length = 256 := sector_length t i 12 (by omega) hi
theorem numB_layAll (l : List (Nat × List UInt8)) {m : Nat} : ∀ (t : List UInt8), t.length = 12 * 256 → NumB t → NumL m l → NumB (layAll t l) := by
  induction l with
  | nil => intro t _ h _; exact h
  | cons x r ih =>
    intro t ht h hl
    obtain ⟨-, h2, h3, h4⟩ := hl x List.mem_cons_self
    have hlen := lay_length t x.1 x.2 (by omega)
    refine ih (lay t x.1 x.2) (by omega) (fun i hi => ?_) (fun y hy => hl y (List.mem_cons_of_mem _ hy))
    by_cases e : i = x.1
    · subst e; rw [sector_lay_at t x.1 x.2 (by omega) h3]; exact h4
    · rw [sector_lay_off t x.1 i x.2 (by omega) (by omega) e]; exact h i hi
theorem numB_crashed (l : List (Nat × List UInt8)) {m : Nat} : ∀ (t : List UInt8) (ks : List Int), t.length = 12 * 256 → NumB t → NumL m l → NumB (crashed t l ks) ∧ (crashed t l ks).length = 12 * 256 ∧ ∀ i, i < m → i < 12 → sector (crashed t l ks) i = sector t i := by
  induction l with
  | nil => intro t _ ht h _; exact ⟨h, ht, fun _ _ _ => rfl⟩
  | cons x r ih =>
    intro t ks ht h hl
    obtain ⟨h1, h2, h3, h4⟩ := hl x List.mem_cons_self
    have hk : clamp (ks.headD 0) ≤ 256 := by unfold clamp; omega
    have hlen := lay_length t x.1 (x.2.take (clamp (ks.headD 0))) (by rw [List.length_take]; omega)
    have hN : NumB (lay t x.1 (x.2.take (clamp (ks.headD 0)))) := fun i hi => by
      by_cases e : i = x.1
      · subst e
        rw [sector_torn t x.1 x.2 _ (by omega) h3 hk]
        exact numS_torn h4 (h x.1 h2) _ (by omega)
      · rw [sector_lay_off t x.1 i _ (by rw [List.length_take]; omega) (by rw [List.length_take]; omega) e]; exact h i hi
    obtain ⟨k1, k2, k3⟩ := ih (lay t x.1 (x.2.take (clamp (ks.headD 0)))) ks.tail (by omega) hN (fun y hy => hl y (List.mem_cons_of_mem _ hy))
    refine ⟨k1, k2, fun i hi hi2 => ?_⟩
    show sector (crashed (lay t x.1 _) r _) i = _
    rw [k3 i hi hi2]
    exact sector_lay_off t x.1 i _ (by rw [List.length_take]; omega) (by rw [List.length_take]; omega) (by omega)

/-! ### what a scrub does -/
theorem scrub_sectors (J : Jr) (D : Dsk) (hw : D.wf) (hf : D.fine) (hz : 1 ≤ J.size) (hfit : J.frm + J.size ≤ D.N) (hn : 1 ≤ J.next) : ∀ n, n ≤ J.size →
    (scrubGo J D n).1.wf ∧ (scrubGo J D n).1.N = D.N ∧ (scrubGo J D n).1.fine ∧ ((scrubGo J D n).2 = false → (scrubGo J D n).1 = D) ∧
    (∀ m, m < D.N → (∀ k, k < n → J.place (J.next + k) = m → (J.rd D (J.next + k)).isSome = false) → sector (scrubGo J D n).1.now m = sector D.now m) ∧
    (∀ k, k < n → (J.rd D (J.next + k)).isSome = true → sector (scrubGo J D n).1.now (J.place (J.next + k)) = List.replicate 256 0) := by
  intro n
  induction n with
  | zero => intro _; exact ⟨hw, rfl, hf, fun _ => rfl, fun _ _ _ => rfl, fun k hk => by omega⟩
  | succ n ih =>
    intro hle
    obtain ⟨i1, i2, i3, i4, i5, i6⟩ := ih (by omega)
    have hpl : J.place (J.next + n) < D.N := place_lt J hz hfit _
    have hrd : J.rd (scrubGo J D n).1 (J.next + n) = J.rd D (J.next + n) := by
      unfold Jr.rd
      rw [i5 _ hpl (fun k hk e => absurd (place_inj J (s := J.next + k) (s' := J.next + n) (by omega) (by omega) (by omega) e) (by omega))]
    have split_ : scrubGo J D (n + 1) = if (J.rd (scrubGo J D n).1 (J.next + n)).isSome = true then ((scrubGo J D n).1.write (J.place (J.next + n) : Int) [], true) else scrubGo J D n := rfl
    rw [split_, hrd]
    generalize scrubGo J D n = S at *
    by_cases hs : (J.rd D (J.next + n)).isSome = true
    · rw [if_pos hs]
      have hwhy := i3.why (J.place (J.next + n)) (by rw [i2]; exact hpl) [] (by simp)
      have e : S.1.write (J.place (J.next + n) : Int) [] = S.1.push [(J.place (J.next + n), List.replicate 256 0)] := by
        unfold Dsk.write
        rw [if_pos hwhy]
        have : sect [] = List.replicate 256 (0 : UInt8) := rfl
        show ({ S.1 with l := S.1.l ++ [((J.place (J.next + n) : Int).toNat, sect [])] } : Dsk) = _
        rw [this, Int.toNat_natCast]
        rfl
      dsimp only
      rw [e]
      have hl256 : (List.replicate 256 (0 : UInt8)).length = 256 := List.length_replicate
      have hfit2 : ∀ x ∈ [(J.place (J.next + n), List.replicate 256 (0 : UInt8))], x.1 * 256 + 256 ≤ S.1.now.length ∧ x.2.length = 256 := fun x hx => by
        rw [List.mem_singleton.1 hx]
        refine ⟨?_, hl256⟩
        rw [i1.now, i1.len, i2]
        show J.place _ * 256 + 256 ≤ _
        omega
      refine ⟨push_wf i1 _ (fun x hx => by rw [List.mem_singleton.1 hx]; exact ⟨by rw [i2]; exact hpl, hl256⟩), i2, ⟨i3.bad, i3.full, i3.gone⟩, fun h => (by cases h), fun m hm hk => ?_, fun k hk hks => ?_⟩
      · rw [push_now, sec_off _ m _ hfit2 (fun x hx e => by rw [List.mem_singleton.1 hx] at e; have := hk n (by omega) e; rw [hs] at this; cases this)]
        exact i5 m hm (fun k hk' => hk k (by omega))
      · rw [push_now]
        by_cases ek : k = n
        · subst ek
          exact sec_at _ _ hfit2 (by rw [List.map_cons, List.map_nil]; exact List.nodup_cons.2 ⟨List.not_mem_nil, List.nodup_nil⟩) (J.place (J.next + k), List.replicate 256 0) List.mem_cons_self
        · rw [sec_off _ _ _ hfit2 (fun x hx e => by
            rw [List.mem_singleton.1 hx] at e
            exact absurd (place_inj J (s := J.next + k) (s' := J.next + n) (by omega) (by omega) (by omega) e.symm) (by omega))]
          exact i6 k (by omega) hks
    · rw [if_neg hs]
      refine ⟨i1, i2, i3, i4, fun m hm hk => i5 m hm (fun k hk' => hk k (by omega)), fun k hk hks => ?_⟩
      by_cases ek : k = n
      · subst ek; exact absurd hks hs
      · exact i6 k (by omega) hks
end Go.Proofs.Ytdinnkacilgmmaa
