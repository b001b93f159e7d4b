/- The reference's disk: Image, Read. -/
import Derived.Test.YtdinnkacilgmmaaRDisk1
namespace Go.Proofs.Ytdinnkacilgmmaa
open Go.RowKit

theorem splice_get' (s : List UInt8) (off : Nat) (b : List UInt8) (h : off + b.length ≤ s.length) (i : Nat) :
    (splice s off b)[i]? = if off ≤ i ∧ i < off + b.length then b[i - off]? else s[i]? := by
  unfold splice
  rw [List.getElem?_append, List.length_take, Nat.min_eq_left (by omega)]
  by_cases h1 : i < off
  · rw [if_pos h1, if_neg (by omega), List.getElem?_take, if_pos h1]
  · rw [if_neg h1, List.getElem?_append]
    by_cases h2 : i - off < b.length
    · rw [if_pos h2, if_pos (by omega)]
    · rw [if_neg h2, if_neg (by omega), List.getElem?_drop]
      congr 1
      omega

theorem sector_get (s : List UInt8) (k j : Nat) : (sector s k)[j]? = if j < 256 then s[k * 256 + j]? else none := by
  unfold sector
  rw [List.getElem?_take]
  split
  · rw [List.getElem?_drop]
  · rfl
theorem sector_lay_at (s : List UInt8) (n : Nat) (b : List UInt8) (hs : n * 256 + 256 ≤ s.length) (hb : b.length = 256) : sector (lay s n b) n = b := by
  apply List.ext_getElem?
  intro j
  rw [sector_get]
  unfold lay
  rw [splice_get' s (n * 256) b (by omega)]
  by_cases h : j < 256
  · rw [if_pos h, if_pos (by omega)]
    congr 1
    omega
  · rw [if_neg h, List.getElem?_eq_none (by omega)]
theorem sector_lay_off (s : List UInt8) (n m : Nat) (b : List UInt8) (hs : n * 256 + b.length ≤ s.length) (hb : b.length ≤ 256) (h : m ≠ n) : sector (lay s n b) m = sector s m := by
  apply List.ext_getElem?
  intro j
  rw [sector_get, sector_get]
  unfold lay
  rw [splice_get' s (n * 256) b (by omega)]
  by_cases hj : j < 256
  · rw [if_pos hj, if_pos hj, if_neg (by omega)]
  · rw [if_neg hj, if_neg hj]

/-- the sector behind one write more -/
theorem sector_step (D : Dsk) (h : D.wf) (n i : Nat) (hn : n < D.N) (hi : i < D.l.length) :
    sector (layAll D.safe (D.l.take (i + 1))) n = if D.l[i].1 = n then D.l[i].2 else sector (layAll D.safe (D.l.take i)) n := by
  have hx := h.l _ (List.getElem_mem hi)
  have hlen : (layAll D.safe (D.l.take i)).length = D.safe.length := layAll_length _ _ (fun x hx => h.fit x (List.mem_of_mem_take hx))
  have hs := h.len
  rw [List.take_succ_eq_append_getElem hi, layAll_snoc]
  have h1 : D.l[i].1 * 256 + 256 ≤ D.safe.length := by rw [hs]; have := hx.1; omega
  split
  · rename_i e
    subst e
    exact sector_lay_at _ _ _ (by rw [hlen]; exact h1) hx.2
  · rename_i e
    exact sector_lay_off _ _ _ _ (by rw [hlen, hx.2]; exact h1) (by omega) (fun e' => e e'.symm)

section
variable {w : World} {B p : Nat} {vs vl : Value} {xs ys : List Value} {D : Dsk}

set_option maxRecDepth 100000 in
theorem rimage_any (h : RV w B p vs vl xs ys D) (C : Nat) (hC : C ≤ w.heap.size) : Calls Try.prog 93 #[.pointer (some ⟨p, 0, none⟩)] w fun e w' =>
    ∃ v, e = .returned v ∧ OwnB w' C v D.safe ∧ Mod (fun _ => False) w w' ∧ (∀ k, v.ownBlock = some k → w.heap.size ≤ k) := by
  obtain ⟨c0, -⟩ := h.cell
  obtain ⟨as1, cs1, es, -, -, hpos⟩ := owns_shape h.safe
  obtain ⟨gs, rfl, hgs⟩ := hpos (by have := h.wf.pos; have := h.hx; omega)
  have hrow := (h.rows).1 gs hgs
  have hN := h.hx
  have hlen := h.wf.len
  have htop := h.wf.top
  subst es
  rw [hN] at c0
  have HN := Lib.hid hN
  have HLEN := Lib.hid hlen
  have HROW := Lib.hid hrow
  clear hN hlen hrow hgs hpos
  go_enter Try.func93, Try.ntmps93
  go_wp2_with fail
  go_loopw [3, 4] (fun v3 v4 wr => ∃ i : Nat, i ≤ D.N ∧ v4 = .int .i64 (i : Int) ∧ OwnB wr w.heap.size v3 (D.safe.take (i * 256)) ∧ Mod (fun _ => False) w wr) (fun _ v4 _ => D.N - (intOf v4).toNat)
  case atStart => exact ⟨0, Nat.zero_le _, rfl, by rw [Nat.zero_mul, List.take_zero]; exact OwnB.nil _ _, Mod.refl _ _⟩
  case round =>
    obtain ⟨i, hi, rfl, ho, hm⟩ := hrel
    have d0 := hm.cell' c0 id
    by_cases hlt : i < D.N
    · have hlt' : (i : Int) < (D.N : Int) := by omega
      have hix : i < xs.length := by rw [HN.out]; exact hlt
      have hex := (h.ex i hix).mod hm (fun _ _ => id)
      have dx := hm.cell' (HROW.out i hix).1 id
      have hsl := sector_length D.safe i D.N (by rw [HLEN.out]; exact Nat.le_refl _) hlt
      obtain ⟨a1, c1, e1, -, -, hbb⟩ := hex.shape
      have hna : a1 = none → c1 = 0 := by
        rintro rfl
        obtain ⟨_, _, e, _⟩ := hbb (by intro e; rw [e] at hsl; cases hsl)
        cases e
      rw [e1] at dx
      rw [hsl] at dx
      have htl : (D.safe.take (i * 256)).length ≤ 1048576 := by rw [List.length_take, HLEN.out]; omega
      have HTS := Lib.hid (take_sector D.safe i)
      have HSL := Lib.hid hsl
      clear hsl hex e1
      generalize sector D.safe i = sn at *
      have hle : w.heap.size ≤ wr.heap.size := hm.size
      go_wp2_with (first
        | (at_builtin; refine appB rfl _ _ rfl w.heap.size _ _ rfl ho a1 _ c1 sn rfl HSL.out hna hbb (by rw [HSL.out]; omega) hle ?_; intro v7 w7 ho7 hm7 _))
      go_roundw
      case rel => exact ⟨i + 1, by omega, by go_num, by rw [← HTS.out]; exact ho7, hm.trans hm7 (fun k hk e => by have := (World.ownsRow.lt ho k e.symm).1; omega)⟩
      case measure => simp [intOf]; omega
    · obtain rfl : i = D.N := by omega
      rw [← HLEN.out, List.take_length] at ho
      go_wp2
      go_ret
      exact ⟨_, rfl, ho.weaken hC, hm, fun k hk => (World.ownsRow.lt ho k hk).1⟩

set_option maxRecDepth 100000 in
theorem rread_any (h : RV w B p vs vl xs ys D) (n : Int) (C : Nat) (hC : C ≤ w.heap.size) (hlim : D.l.length ≤ 1048576) : Calls Try.prog 94 #[.pointer (some ⟨p, 0, none⟩), .int .i64 n] w fun e w' =>
    ∃ v, e = .returned (.tuple #[v, .int .i64 (D.wrong n)]) ∧ OwnB w' C v (if D.wrong n = 0 then sector D.now n.toNat else []) ∧ Mod (fun _ => False) w w' ∧ (∀ k, v.ownBlock = some k → w.heap.size ≤ k) := by
  obtain ⟨c0, c1, -⟩ := h.cell
  obtain ⟨as1, cs1, es, -, -, hpos⟩ := owns_shape h.safe
  obtain ⟨gs, rfl, hgs⟩ := hpos (by have := h.wf.pos; have := h.hx; omega)
  obtain ⟨al1, cl1, el, -, -, hposl⟩ := owns_shape h.l
  have hrow := (h.rows).1 gs hgs
  have hrl := (h.rows).2
  have hN := h.hx
  have hY := h.hy
  subst es el
  rw [hN] at c0
  have HN := Lib.hid hN
  have HY := Lib.hid hY
  have HROW := Lib.hid hrow
  have HRL := Lib.hid hrl
  have HPL := Lib.hid hposl
  have hmx := h.wf.top
  clear hN hY hrow hrl hposl hgs
  by_cases hw : D.wrong n = 0
  · obtain ⟨k, rfl⟩ : ∃ k : Nat, n = (k : Int) := ⟨n.toNat, by unfold Dsk.wrong at hw; split at hw <;> omega⟩
    have hk : k < D.N := by unfold Dsk.wrong at hw; split at hw <;> omega
    have hk' : (k : Int) < (D.N : Int) := by omega
    rw [hw, if_pos rfl, Int.toNat_natCast]
    clear hw
    have hkx : k < xs.length := by rw [HN.out]; exact hk
    have dx := (HROW.out k hkx).1
    have hex := h.ex k hkx
    generalize xs[k] = x at *
    go_enter Try.func94, Try.ntmps94
    go_wp2_with fail
    go_loop [6, 7] (fun v6 v7 => ∃ i : Nat, i ≤ D.l.length ∧ v7 = .int .i64 (i : Int) ∧ OwnB w B v6 (sector (layAll D.safe (D.l.take i)) k)) (fun _ v7 => D.l.length - (intOf v7).toNat)
    case atStart => exact ⟨0, Nat.zero_le _, rfl, by rw [List.take_zero]; exact hex⟩
    case round =>
      obtain ⟨i, hi, rfl, ho⟩ := hrel
      by_cases hlt : i < D.l.length
      · have hlt' : (i : Int) < (D.l.length : Int) := by omega
        obtain ⟨gl, rfl, hgl⟩ := HPL.out (by omega)
        have hiy : i < ys.length := by rw [HY.out]; exact hlt
        obtain ⟨y0, y1⟩ := HRL.out gl hgl i hlt hiy
        have hey := h.ey i hiy hlt
        have hst := sector_step D h.wf k i hk hlt
        have HST := Lib.hid hst
        clear hst
        generalize D.l[i] = q at *
        generalize ys[i] = y at *
        by_cases hq : q.1 = k
        · have hq' : ((q.1 : Int) == (k : Int)) = true := by rw [beq_iff_eq]; omega
          have HQ := Lib.hid hq
          clear hq
          go_wp2_with fail
          go_round
          case rel => exact ⟨i + 1, by omega, by go_num, by rw [HST.out, if_pos HQ.out]; exact hey⟩
          case measure => simp [intOf]; omega
        · have hq' : ((q.1 : Int) == (k : Int)) = false := by rw [beq_eq_false_iff_ne]; omega
          go_wp2_with fail
          go_round
          case rel => exact ⟨i + 1, by omega, by go_num, by rw [HST.out, if_neg hq]; exact ho⟩
          case measure => simp [intOf]; omega
      · obtain rfl : i = D.l.length := by omega
        rw [List.take_length] at ho
        have hsl : (sector D.now k).length = 256 := sector_length _ _ _ (by rw [h.wf.now]; exact Nat.le_of_eq h.wf.len.symm) hk
        have ho' : OwnB w B u6 (sector D.now k) := ho
        obtain ⟨a6, c6, e6, -, -, hb6⟩ := ho'.shape
        rw [hsl] at e6
        subst e6
        have HSL := Lib.hid hsl
        clear hsl ho
        go_wp2_with fail
        refine (rfull_n a6 (sector D.now k) _ _ HSL.out _ C hC hb6 (by rw [HSL.out]; decide)).mono ?_
        rintro e w' ⟨v, rfl, hv, hm, hn⟩
        go_wp2
        refine bodyPost_ret (results_tmp2 rfl _ _ _) rfl ?_
        exact ⟨_, rfl, hv.to (sect_full _ HSL.out), hm, hn⟩
  · have hw1 : D.wrong n = 1 := by unfold Dsk.wrong at hw ⊢; split <;> simp_all
    rw [hw1, if_neg (by decide)]
    by_cases h0 : n < 0
    · go_enter Try.func94, Try.ntmps94
      go_wp2
      refine bodyPost_ret (results_tmp2 rfl _ _ _) rfl ?_
      exact ⟨_, rfl, OwnB.nil _ _, Mod.refl _ _, by simp [Value.ownBlock]⟩
    · have h1 : (D.N : Int) ≤ n := by unfold Dsk.wrong at hw; split at hw <;> omega
      go_enter Try.func94, Try.ntmps94
      go_wp2
      refine bodyPost_ret (results_tmp2 rfl _ _ _) rfl ?_
      exact ⟨_, rfl, OwnB.nil _ _, Mod.refl _ _, by simp [Value.ownBlock]⟩
end
end Go.Proofs.Ytdinnkacilgmmaa
