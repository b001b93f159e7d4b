/- The reference's disk: Sync. -/
import Derived.Test.YtdinnkacilgmmaaRDisk3
namespace Go.Proofs.Ytdinnkacilgmmaa
open Go.RowKit

section
variable {w : World} {B p : Nat} {vs vl : Value} {xs ys : List Value} {D : Dsk}

/-- one flag of the disk's own block is written -/
theorem RV.flag (h : RV w B p vs vl xs ys D) (i : Nat) (v : Value) (D' : Dsk) (hs : D'.safe = D.safe) (hl : D'.l = D.l)
    (hc : #[vs, vl, .bool D.bad, .bool D.full, .bool D.gone].setIfInBounds i v = #[vs, vl, .bool D'.bad, .bool D'.full, .bool D'.gone]) :
    RV (w.setCell ⟨p, i, none⟩ v) B p vs vl xs ys D' ∧ Mod (rfoot p vs vl xs ys) w (w.setCell ⟨p, i, none⟩ v) := by
  have hm : Mod (fun k => k = p) w (w.setCell ⟨p, i, none⟩ v) := Mod.setCell w _ v rfl
  have hne := h.ne
  obtain ⟨s, l, b, f, g⟩ := D'
  subst hs hl
  refine ⟨⟨⟨h.wf.len, h.wf.pos, h.wf.top, h.wf.l⟩, ?_, h.hp, owns_mod h.safe hm (fun k hk e => hne.1 (by rw [hk, e])), h.hx, fun j hj => (h.ex j hj).mod hm (fun k hk e => (hne.2.2.2.1 j hj k hk).1 e),
    owns_mod h.l hm (fun k hk e => hne.2.1 (by rw [hk, e])), h.hy, fun j hj h2 => (h.ey j hj h2).mod hm (fun k hk e => (hne.2.2.2.2 j hj k hk).1 e)⟩, Mod.setCell w _ v (.inl rfl)⟩
  rw [setCell_block h.at_, hc]

/-- a sector's row is put in place of another -/
theorem RV.put (h : RV w B p vs vl xs ys D) (n : Nat) (hn : n < D.N) (v : Value) (b s' : List UInt8) (hv : OwnB w B v b) (g : Nat) (hg : vs.ownBlock = some g) (hs : s'.length = D.safe.length) (hsame : sector s' n = b) (hoth : ∀ m, m ≠ n → sector s' m = sector D.safe m) :
    RV (w.setCell ⟨g, n, none⟩ v) B p vs vl (xs.set n v) ys { D with safe := s' } ∧ Mod (fun k => k = g) w (w.setCell ⟨g, n, none⟩ v) := by
  have hm : Mod (fun k => k = g) w (w.setCell ⟨g, n, none⟩ v) := Mod.setCell w _ v rfl
  have hne := h.ne
  have hN : ({ D with safe := s' } : Dsk).N = D.N := by unfold Dsk.N; rw [hs]
  have hpg : p ≠ g := fun e => hne.1 (by rw [hg, e])
  have hvg : ∀ k, v.ownBlock = some k → k ≠ g := fun k hk e => by
    obtain ⟨c, hc⟩ := own_type hv hk
    exact own_ne h.safe hc (by decide) (by rw [hg, e])
  refine ⟨⟨⟨?_, ?_, ?_, ?_⟩, hm.obj h.at_ hpg, h.hp, ?_, ?_, fun i hi => ?_, owns_mod h.l hm (fun k hk e => hne.2.2.1 k hk (by rw [hg, e])), h.hy, fun j hj h2 => (h.ey j hj h2).mod hm (fun k hk e => (hne.2.2.2.2 j hj k hk).2.1 (by rw [hg, e]))⟩, hm⟩
  · show s'.length = _
    rw [hN, hs]; exact h.wf.len
  · rw [hN]; exact h.wf.pos
  · rw [hN]; exact h.wf.top
  · rw [hN]; exact h.wf.l
  · have hsa := h.safe
    rcases hsa.2 with ⟨rfl, h0⟩ | ⟨g', cap, cur, rfl, -⟩
    · simp [Value.ownBlock] at hg
    · simp [Value.ownBlock] at hg
      subst hg
      have := (World.ownsRow.stored hsa n v).1
      rw [List.length_set]
      exact this
  · rw [List.length_set, hN]; exact h.hx
  · by_cases e : i = n
    · subst e
      rw [List.getElem_set_self, show sector ({ D with safe := s' } : Dsk).safe i = b from hsame]
      exact hv.mod hm hvg
    · rw [List.getElem_set_ne (fun e' => e e'.symm), show sector ({ D with safe := s' } : Dsk).safe i = sector D.safe i from hoth i e]
      exact (h.ex i (by simpa using hi)).mod hm (fun k hk e => (hne.2.2.2.1 i (by simpa using hi) k hk).2.1 (by rw [hg, e]))

/-- no write is left -/
theorem RV.clean (h : RV w B p vs vl xs ys D) : RV (w.setCell ⟨p, 1, none⟩ (.slice none 0 0)) B p vs (.slice none 0 0) xs [] { D with l := [] } ∧ Mod (fun k => k = p) w (w.setCell ⟨p, 1, none⟩ (.slice none 0 0)) := by
  have hm : Mod (fun k => k = p) w (w.setCell ⟨p, 1, none⟩ (.slice none 0 0)) := Mod.setCell w _ _ rfl
  have hne := h.ne
  refine ⟨⟨⟨h.wf.len, h.wf.pos, h.wf.top, fun x hx => by cases hx⟩, ?_, h.hp, owns_mod h.safe hm (fun k hk e => hne.1 (by rw [hk, e])), h.hx, fun j hj => (h.ex j hj).mod hm (fun k hk e => (hne.2.2.2.1 j hj k hk).1 e), World.ownsRow_nil _ _ _ _, rfl, fun i hi => by simp at hi⟩, hm⟩
  rw [setCell_block h.at_]; rfl

set_option maxHeartbeats 1000000 in
set_option maxRecDepth 100000 in
theorem rsync_any (h : RV w B p vs vl xs ys D) (hlim : D.l.length ≤ 1048576) :
    Calls Try.prog 91 #[.pointer (some ⟨p, 0, none⟩)] w fun e w' => e = .returned (.int .i64 D.whySync) ∧ Left (RDiskT B p D.sync) (rfoot p vs vl xs ys) w w' := by
  obtain ⟨c0, c1, c2, c3, c4⟩ := h.cell
  have f4 := thaw_of (i := 4) h.at_
  by_cases hg : D.gone = true
  · have e1 : D.whySync = 21 := by simp [Dsk.whySync, hg]
    have e2 : D.sync = D := by simp [Dsk.sync, hg]
    rw [e1, e2]
    rw [hg] at c4
    go_enter Try.func91, Try.ntmps91
    go_wp2
    go_ret
    exact ⟨rfl, h.still⟩
  have hg : D.gone = false := by simpa using hg
  by_cases hb : D.bad = true
  · have e1 : D.whySync = 20 := by simp [Dsk.whySync, hg, hb]
    have e2 : D.sync = { D with gone := true } := by simp [Dsk.sync, hg, hb]
    rw [e1, e2]
    rw [hg] at c4
    rw [hb] at c2
    have hfl := h.flag 4 (.bool true) { D with gone := true } rfl rfl rfl
    go_enter Try.func91, Try.ntmps91
    go_wp2
    go_ret
    exact ⟨rfl, hfl.2, _, ⟨_, _, _, _, hfl.1, rfl⟩, fun _ hk => .inl hk⟩
  have hb : D.bad = false := by simpa using hb
  have e1 : D.whySync = 0 := by simp [Dsk.whySync, hg, hb]
  have e2 : D.sync = { D with safe := D.now, l := [] } := by simp [Dsk.sync, hg, hb]
  rw [e1, e2]
  rw [hg] at c4
  rw [hb] at c2
  obtain ⟨as1, cs1, es, -, -, hpos⟩ := owns_shape h.safe
  obtain ⟨gs, rfl, hgs⟩ := hpos (by have := h.wf.pos; have := h.hx; omega)
  obtain ⟨al1, cl1, el, -, -, hposl⟩ := owns_shape h.l
  have hmx := h.wf.top
  have HES := Lib.hid es
  have HEL := Lib.hid el
  have HPL := Lib.hid hposl
  have HH := Lib.hid h
  have HX := Lib.hid h.hx
  have HY := Lib.hid h.hy
  have HGS := Lib.hid hgs
  rw [es] at c0
  rw [el] at c1
  have HG := Lib.hid hg
  have HB := Lib.hid hb
  clear e1 e2 hg hb hposl es el hgs hpos
  go_enter Try.func91, Try.ntmps91
  go_wp2_with fail
  go_loopw [3] (fun v3 wr => ∃ (i : Nat) (xs' : List Value), i ≤ D.l.length ∧ v3 = .int .i64 (i : Int) ∧ RV wr B p vs vl xs' ys { D with safe := layAll D.safe (D.l.take i) } ∧ Mod (rfoot p vs vl xs ys) w wr ∧ ∀ x ∈ xs', x ∈ xs ∨ x ∈ ys) (fun v3 _ => D.l.length - (intOf v3).toNat)
  case atStart => exact ⟨0, xs, Nat.zero_le _, rfl, by rw [List.take_zero]; exact h, Mod.refl _ _, fun x hx => .inl hx⟩
  case round =>
    obtain ⟨i, xs', hi, rfl, hR, hm, hsub⟩ := hrel
    obtain ⟨d0, d1, -⟩ := hR.cell
    have hxl := hR.hx
    have hNN : ({ D with safe := layAll D.safe (D.l.take i) } : Dsk).N = D.N := by
      unfold Dsk.N
      rw [show ({ D with safe := layAll D.safe (D.l.take i) } : Dsk).safe = layAll D.safe (D.l.take i) from rfl, layAll_length _ _ (fun x hx => h.wf.fit x (List.mem_of_mem_take hx))]
    rw [HES.out] at d0
    rw [HEL.out] at d1
    rw [HX.out] at d0
    by_cases hlt : i < D.l.length
    · have hlt' : (i : Int) < (D.l.length : Int) := by omega
      obtain ⟨gl, rfl, hgl⟩ := HPL.out (by omega)
      have hiy : i < ys.length := by rw [HY.out]; exact hlt
      obtain ⟨y0, y1⟩ := hR.rows.2 gl hgl i hlt hiy
      have hxn := h.wf.l _ (List.getElem_mem hlt)
      have hey := hR.ey i hiy hlt
      have hnx : D.l[i].1 < xs'.length := by rw [hxl, hNN]; exact hxn.1
      obtain ⟨z0, z1⟩ := hR.rows.1 gs HGS.out _ hnx
      have hls : (layAll D.safe (D.l.take i)).length = D.safe.length := layAll_length _ _ (fun x hx => h.wf.fit x (List.mem_of_mem_take hx))
      have hfit := h.wf.fit _ (List.getElem_mem hlt)
      have hput := hR.put D.l[i].1 (by rw [hNN]; exact hxn.1) ys[i] D.l[i].2 (layAll D.safe (D.l.take (i + 1))) hey gs HGS.out
        (by rw [show ({ D with safe := layAll D.safe (D.l.take i) } : Dsk).safe = layAll D.safe (D.l.take i) from rfl, hls]; exact layAll_length _ _ (fun x hx => h.wf.fit x (List.mem_of_mem_take hx)))
        (by rw [List.take_succ_eq_append_getElem hlt, layAll_snoc]; exact sector_lay_at _ _ _ (by rw [hls]; rw [hxn.2] at hfit; exact hfit) hxn.2)
        (fun m hm => by rw [List.take_succ_eq_append_getElem hlt, layAll_snoc]; exact sector_lay_off _ _ _ _ (by rw [hls]; exact hfit) (by rw [hxn.2]; exact Nat.le_refl _) hm)
      obtain ⟨hp1, hp2⟩ := hput
      have hmem : ys[i] ∈ ys := List.getElem_mem hiy
      obtain ⟨ay, cy, ey, -, -, -⟩ := hey.shape
      have hnI : ((D.l[i].1 : Nat) : Int) < (D.N : Int) := by have := hxn.1; omega
      have hpg : p ≠ gs := fun e => h.ne.1 (by rw [HGS.out, e])
      have hlg : gl ≠ gs := fun e => h.ne.2.2.1 gl hgl (by rw [HGS.out, e])
      have HP1 := Lib.hid hp1
      have HP2 := Lib.hid hp2
      have HMEM := Lib.hid hmem
      have HSUB := Lib.hid hsub
      have HNE := Lib.hid hpg
      have HNE2 := Lib.hid hlg
      have HEY := Lib.hid ey
      rw [ey] at y1
      clear hR hxn hey hls hfit hp1 hp2 hsub hmem hxl hgl hpg hlg ey c0 c1 c2 c3 c4 f4
      generalize D.l[i] = q at *
      generalize ys[i] = y at *
      generalize xs'[q.1] = z at *
      go_upto_region 9 with fail
      go_region_held3 (fun w' => w'.cell? ⟨p, 0, none⟩ = some (.slice (some ⟨gs, 0, none⟩) D.N cs1) ∧ w'.cell? ⟨p, 1, none⟩ = some (.slice (some ⟨gl, 0, none⟩) D.l.length cl1) ∧ w'.cell? ⟨gl, i * 2, none⟩ = some (.int .i64 (q.1 : Int)) ∧ w'.cell? ⟨gl, i * 2 + 1, none⟩ = some (.slice ay q.2.length cy))
        (first
          | (refine ⟨?_, ?_, ?_, ?_⟩ <;> simpa using (by assumption))
          | exact ⟨(Mod.setCell (F := fun k => k = gs) _ _ _ rfl).cell' (by simpa using d0) HNE.out, (Mod.setCell (F := fun k => k = gs) _ _ _ rfl).cell' (by simpa using d1) HNE.out, (Mod.setCell (F := fun k => k = gs) _ _ _ rfl).cell' (by simpa using y0) HNE2.out, (Mod.setCell (F := fun k => k = gs) _ _ _ rfl).cell' (by simpa using y1) HNE2.out⟩)
        (fail)
      have md : Mod (fun _ => False) (wr.setCell ⟨gs, q.1, none⟩ y) (wr.setCell ⟨gs, q.1, none⟩ y).drew := Mod.drew _ _
      have hrr := HP1.out.mod md (fun _ _ => id)
      have hmm : Mod (rfoot p vs vl xs ys) w (wr.setCell ⟨gs, q.1, none⟩ y).drew := (hm.trans HP2.out (fun k _ e => .inr (.inl (by rw [HGS.out, e])))).trans md (fun _ _ e => e.elim)
      rw [HEY.out] at hrr hmm
      have HRR := Lib.hid hrr
      have HMM := Lib.hid hmm
      clear hrr hmm md
      go_wp2_with fail
      go_roundw
      case rel =>
        refine ⟨i + 1, _, by omega, by go_num, HRR.out, HMM.out, fun x hx => ?_⟩
        rcases List.mem_or_eq_of_mem_set hx with hx | hx
        · exact HSUB.out x hx
        · rw [hx, ← HEY.out]; exact .inr HMEM.out
      case measure => simp [intOf]; omega
    · obtain rfl : i = D.l.length := by omega
      rw [List.take_length] at hR
      have t1 := thaw_of (i := 1) hR.at_
      obtain ⟨q1, q2⟩ := hR.clean
      have HQ1 := Lib.hid q1
      have HQ2 := Lib.hid q2
      have HSUB := Lib.hid hsub
      clear q1 q2 hR hsub hxl hNN
      go_wp2
      go_ret
      refine ⟨rfl, hm.trans HQ2.out (fun k _ e => .inl e), _, ⟨_, _, _, _, by have hq := HQ1.out; rw [show ({ D with safe := layAll D.safe D.l } : Dsk).bad = D.bad from rfl, show ({ D with safe := layAll D.safe D.l } : Dsk).gone = D.gone from rfl, HB.out, HG.out] at hq; exact hq, rfl⟩, ?_⟩
      rintro k (e | e | e | ⟨x, hx, e⟩ | ⟨y, hy, e⟩)
      · exact .inl (.inl e)
      · exact .inl (.inr (.inl e))
      · simp [Value.ownBlock] at e
      · rcases HSUB.out x hx with h2 | h2
        · exact .inl (.inr (.inr (.inr (.inl ⟨x, h2, e⟩))))
        · exact .inl (.inr (.inr (.inr (.inr ⟨x, h2, e⟩))))
      · cases hy
end
end Go.Proofs.Ytdinnkacilgmmaa
