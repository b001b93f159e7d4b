/- The pager said plainly: how it begins, how many pages are free. -/
import Derived.Test.YtdinnkacilgmmaaPPl1
namespace Go.Proofs.Ytdinnkacilgmmaa
open Go.RowKit

theorem zeros_sec (N i : Nat) (h : i < N) : sector (List.replicate (N * 256) (0 : UInt8)) i = List.replicate 256 0 := by
  unfold sector
  rw [List.drop_replicate, List.take_replicate]
  congr 1
  omega
theorem opened_zeros (N : Nat) (h3 : 3 ≤ N) : Pgr.opened 0 N (Dsk.of (List.replicate (N * 256) 0)) = ⟨0, N - 2, zeros4096, Rt.none, false⟩ := by
  unfold Pgr.opened
  have e : ∀ i, i < 2 → rootOf (N - 2) (sector (Dsk.of (List.replicate (N * 256) 0)).now (0 + i)) = none := fun i hi => by
    show rootOf (N - 2) (sector (List.replicate (N * 256) 0) (0 + i)) = none
    rw [zeros_sec N _ (by omega)]
    exact rootOf_zeros _
  have : bestAt (N - 2) 0 (Dsk.of (List.replicate (N * 256) 0)) 2 = Rt.none := by
    show (Rt.none.better (rootOf (N - 2) (sector (Dsk.of (List.replicate (N * 256) 0)).now (0 + 0)))).better (rootOf (N - 2) (sector (Dsk.of (List.replicate (N * 256) 0)).now (0 + 1))) = _
    rw [e 0 (by decide), e 1 (by decide)]
    rfl
  rw [this]
theorem PInv.start (N : Nat) (h3 : 3 ≤ N) (hN : N ≤ 4096) (was : Nat → List UInt8) : PInv ⟨0, N - 2, zeros4096, Rt.none, false⟩ (Dsk.of (List.replicate (N * 256) 0)) was := by
  have hn : (Dsk.of (List.replicate (N * 256) 0)).N = N := by simp [Dsk.of, Dsk.N]
  have hwf : (Dsk.of (List.replicate (N * 256) 0)).wf := Dsk.of_wf _ (by rw [List.length_replicate]; unfold imageOk; omega)
  refine ⟨⟨zeros4096_length, by rw [hn]; show 0 + 2 + (N - 2) ≤ N; omega, by rw [hn]; exact hN, by show 1 ≤ N - 2; omega, Rt.none_ok⟩, hwf, rfl, rfl, ⟨fun i hi x hx => ?_, .inl rfl⟩, (fun x hx => by cases hx), fun n _ hi => ?_⟩
  · have hx' : rootOf (N - 2) (sector (List.replicate (N * 256) 0) (0 + i)) = some x := hx
    rw [zeros_sec N _ (by omega), rootOf_zeros] at hx'
    cases hx'
  · exact absurd (zeros4096_get n) hi

theorem empties_is (P : Pgr) (n : Nat) (hn : n < P.pages) (h0 : P.is_.getD n 0 = 0) (hl : ∀ k, k < n → P.is_.getD k 0 ≠ 0) : P.empties.getD 0 0 = n ∧ P.empties.length ≠ 0 := by
  have hf : freeAt P n = true := by unfold freeAt; rw [h0]; rfl
  have he : (List.range n).filter (freeAt P) = [] := by
    rw [List.filter_eq_nil_iff]
    intro k hk
    rw [List.mem_range] at hk
    simpa [freeAt] using hl k hk
  obtain ⟨h1, h2⟩ := empties_at P n hn hf
  rw [he] at h1 h2
  exact ⟨h1, by simp at h2; omega⟩

theorem PInv.writeFirst {P : Pgr} {D : Dsk} {was : Nat → List UInt8} (h : PInv P D was) (hd : P.dead = false) (b : List UInt8) (hb : b.length ≤ 252) (n : Nat) (hn : n < P.pages) (h0 : P.is_.getD n 0 = 0) (hl : ∀ k, k < n → P.is_.getD k 0 ≠ 0) :
    (P.write D b).1 = (n : Int) ∧ (P.write D b).2.1 = 0 ∧ (P.write D b).2.2.1 = { P with is_ := P.is_.set n 2 } ∧ (P.write D b).2.2.2.l.length ≤ D.l.length + 1 ∧ PInv (P.write D b).2.2.1 (P.write D b).2.2.2 (fun k => if k = n then b else was k) := by
  obtain ⟨e1, e2⟩ := empties_is P n hn h0 hl
  have hw := h.write b
  have hc : (P.write D b).2.1 = 0 := by
    have hfit := h.pw.fit
    obtain ⟨w1, -, -, -⟩ := dwrite_ok h.dw (n := P.frm + 2 + n) (by omega) (seal_length b hb) (by rw [h.dead, hd]) h.full
    unfold Pgr.write Pgr.writeAt
    rw [if_neg (by rw [hd]; decide), if_neg (by omega), if_neg e2, e1, if_pos w1]
  obtain ⟨e, h1, h2, h3, h4, h5, h6, h7, h8⟩ := hw.1 hc
  rw [e1] at h7
  subst h7
  exact ⟨h1, hc, h5, h6, h8⟩

/-! ### how many are free -/
theorem filter_upd (f g : Nat → Bool) (e : Nat) (hfe : f e = true) (hge : g e = false) (ho : ∀ k, k ≠ e → f k = g k) : ∀ n, ((List.range n).filter f).length = ((List.range n).filter g).length + if e < n then 1 else 0
  | 0 => rfl
  | n + 1 => by
    have ih := filter_upd f g e hfe hge ho n
    rw [List.range_succ, List.filter_append, List.filter_append, List.length_append, List.length_append, ih]
    by_cases hn : n = e
    · subst hn
      rw [if_neg (Nat.lt_irrefl _), if_pos (Nat.lt_succ_self _)]
      simp [hfe, hge]
    · have e1 : (List.filter f [n]).length = (List.filter g [n]).length := by simp [List.filter_cons, ho n hn]
      rw [e1]
      by_cases h2 : e < n
      · rw [if_pos h2, if_pos (by omega)]; omega
      · rw [if_neg h2, if_neg (by omega)]; omega
theorem filter_both (f : Nat → Bool) : ∀ n, ((List.range n).filter f).length + ((List.range n).filter (fun k => !f k)).length = n
  | 0 => rfl
  | n + 1 => by
    have ih := filter_both f n
    rw [List.range_succ, List.filter_append, List.filter_append, List.length_append, List.length_append]
    cases h : f n <;> simp [h] <;> omega

theorem empties_set (P : Pgr) (e : Nat) (he : e < P.pages) (hl : e < P.is_.length) (h0 : P.is_.getD e 0 = 0) (c : UInt8) (hc : c ≠ 0) : P.empties.length = ({ P with is_ := P.is_.set e c } : Pgr).empties.length + 1 := by
  have := filter_upd (freeAt P) (freeAt { P with is_ := P.is_.set e c }) e (by unfold freeAt; rw [h0]; rfl) (by show ((P.is_.set e c).getD e 0 == 0) = false; rw [getD_set _ _ _ _ hl, if_pos rfl]; simpa using hc)
    (fun k hk => by show (P.is_.getD k 0 == 0) = ((P.is_.set e c).getD k 0 == 0); rw [getD_set _ _ _ _ hl, if_neg hk]) P.pages
  rw [if_pos he] at this
  exact this
theorem empties_unset (P : Pgr) (e : Nat) (he : e < P.pages) (hl : e < P.is_.length) (h0 : P.is_.getD e 0 ≠ 0) : ({ P with is_ := P.is_.set e 0 } : Pgr).empties.length = P.empties.length + 1 := by
  have := filter_upd (freeAt { P with is_ := P.is_.set e 0 }) (freeAt P) e (by show ((P.is_.set e 0).getD e 0 == 0) = true; rw [getD_set _ _ _ _ hl, if_pos rfl]; rfl) (by simpa [freeAt] using h0)
    (fun k hk => by show ((P.is_.set e 0).getD k 0 == 0) = (P.is_.getD k 0 == 0); rw [getD_set _ _ _ _ hl, if_neg hk]) P.pages
  rw [if_pos he] at this
  exact this
theorem cnt_several (pages : Nat) (l : List Int) (hl : ∀ x ∈ l, 0 ≤ x ∧ x < (pages : Int)) : ∀ i, i ≤ l.length → ((List.range pages).filter (fun n : Nat => decide ((n : Int) ∈ l.take i))).length = severalTo l i
  | 0, _ => by simp [severalTo]
  | i + 1, hi => by
    have ih := cnt_several pages l hl i (by omega)
    have hlt : i < l.length := by omega
    rw [severalTo_succ, ← ih, List.take_succ_eq_append_getElem hlt]
    have hgi : l.getD i 0 = l[i] := by simp [List.getD_eq_getElem?_getD, List.getElem?_eq_getElem hlt]
    have hmem := hl l[i] (List.getElem_mem _)
    obtain ⟨y, hy⟩ : ∃ y, y = l[i] := ⟨_, rfl⟩
    rw [← hy] at hmem hgi ⊢
    have hnew : newAt l i = true ↔ y ∉ l.take i := by
      unfold newAt
      rw [hgi, List.all_eq_true]
      constructor
      · intro h hm
        simpa using h y hm
      · intro h x hx
        rw [bne_iff_ne]
        intro e
        subst e
        exact h hx
    by_cases hn : newAt l i = true
    · rw [if_pos hn]
      have hnm := hnew.1 hn
      have := filter_upd (fun n : Nat => decide ((n : Int) ∈ l.take i ++ [y])) (fun n : Nat => decide ((n : Int) ∈ l.take i)) y.toNat
        (by rw [decide_eq_true_eq, List.mem_append]; exact .inr (by rw [List.mem_singleton]; omega))
        (by rw [decide_eq_false_iff_not, show ((y.toNat : Nat) : Int) = y by omega]; exact hnm)
        (fun k hk => by
          rw [decide_eq_decide, List.mem_append, List.mem_singleton]
          exact ⟨fun h => h.elim id (fun e => absurd (show k = y.toNat by omega) hk), .inl⟩) pages
      rw [if_pos (by omega)] at this
      exact this
    · rw [if_neg hn, Nat.add_zero]
      have hm : y ∈ l.take i := by
        by_cases hc : y ∈ l.take i
        · exact hc
        · exact absurd (hnew.2 hc) hn
      congr 2
      funext n
      rw [decide_eq_decide, List.mem_append, List.mem_singleton]
      exact ⟨fun h => h.elim id (fun e => e ▸ hm), .inl⟩
theorem empties_setAll (P : Pgr) (hpg : P.pages ≤ 4096) (l : List Int) (hl : ∀ x ∈ l, 0 ≤ x ∧ x < (P.pages : Int)) (R : Rt) : ({ P with root := R, is_ := setAll l zeros4096 } : Pgr).empties.length + several l = P.pages := by
  have h1 := cnt_several P.pages l hl l.length (Nat.le_refl _)
  rw [List.take_length] at h1
  have h2 := filter_both (fun n : Nat => decide ((n : Int) ∈ l)) P.pages
  rw [h1] at h2
  have h3 : ({ P with root := R, is_ := setAll l zeros4096 } : Pgr).empties = (List.range P.pages).filter (fun n : Nat => !decide ((n : Int) ∈ l)) := by
    show (List.range P.pages).filter _ = _
    refine List.filter_congr (fun n hn => ?_)
    rw [List.mem_range] at hn
    show ((setAll l zeros4096).getD n 0 == 0) = _
    rw [setAll_get l n (by omega) _ zeros4096_length (fun x hx => by have := hl x hx; omega), zeros4096_get]
    by_cases hc : (n : Int) ∈ l
    · rw [if_pos hc]; simp [hc]
    · rw [if_neg hc]; simp [hc]
  rw [h3]
  show _ + severalTo l l.length = _
  omega
end Go.Proofs.Ytdinnkacilgmmaa
