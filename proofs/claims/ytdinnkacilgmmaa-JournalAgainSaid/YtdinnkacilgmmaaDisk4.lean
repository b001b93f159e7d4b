/- The walks of Sync, Load, New. -/
import Derived.Test.YtdinnkacilgmmaaDisk3
namespace Go.Proofs.Ytdinnkacilgmmaa
open Go.RowKit

theorem splice_all (s : List UInt8) (b : List UInt8) (h : b.length = s.length) : splice s 0 b = b := by
  simp [splice, h]

set_option maxRecDepth 100000 in
theorem sync_any {w : World} {B p : Nat} {vs vn vl : Value} {D : Dsk} (h : DiskV w B p vs vn vl D) :
    Calls Try.prog 43 #[.pointer (some ⟨p, 0, none⟩)] w fun e w' => e = .returned (.int .i64 D.whySync) ∧ Turned w B p (foot p vs vn vl) D.sync w' := by
  obtain ⟨c0, c1, -, c3, -, c5⟩ := h.cell
  have f5 := thaw_of (i := 5) h.at_
  have f2 := thaw_of (i := 2) h.at_
  by_cases hg : D.gone = true
  · have e1 : D.whySync = 21 := by simp [Dsk.whySync, hg]
    have e2 : D.sync = D := by simp [Dsk.sync, hg]
    rw [e1, e2]
    rw [hg] at c5
    go_enter Try.func43, Try.ntmps43
    go_wp2
    go_ret
    exact ⟨rfl, Turned.refl h⟩
  have hg : D.gone = false := by simpa using hg
  by_cases hb : D.bad = true
  · have e1 : D.whySync = 20 := by simp [Dsk.whySync, hg, hb]
    have e2 : D.sync = { D with gone := true } := by simp [Dsk.sync, hg, hb]
    rw [e1, e2]
    rw [hg] at c5
    rw [hb] at c3
    go_enter Try.func43, Try.ntmps43
    go_wp2
    go_ret
    exact ⟨rfl, h.flag 5 _ _ rfl rfl rfl⟩
  have hb : D.bad = false := by simpa using hb
  have e1 : D.whySync = 0 := by simp [Dsk.whySync, hg, hb]
  have e2 : D.sync = { D with safe := D.now, l := [] } := by simp [Dsk.sync, hg, hb]
  have hwf := h.wf.sync
  rw [e2] at hwf
  rw [e1, e2]
  rw [hg] at c5
  rw [hb] at c3
  have hnn := h.wf.now
  have hp' := h.wf.pos'
  have hne : D.now ≠ [] := by intro e; rw [e] at hnn; simp at hnn; omega
  have hns : D.safe ≠ [] := by intro e; rw [e] at hp'; simp at hp'
  obtain ⟨gs, caps, curs, es, -, hgs, hles, -, hszs, -⟩ := h.safe.row hns
  obtain ⟨gn, capn, curn, en, -, hgn, hlen, -, hszn, -⟩ := h.now.row hne
  obtain ⟨an, cn', en', -, -, hbn⟩ := h.now.shape
  rw [en] at en'
  cases en'
  have hgo : vs.ownBlock = some gs := by rw [es]; rfl
  have hgon : vn.ownBlock = some gn := by rw [en]; rfl
  have hap : gs ≠ gn := by intro e; exact h.apart (by rw [hgo, hgon, e])
  have hpg : p ≠ gs := by intro e; exact h.ne_sl.1 (by rw [hgo, e])
  have hss := h.safe
  rw [es] at c0 hss
  rw [en] at c1
  rw [hnn] at c1
  have HNN := Lib.hid hnn
  clear hnn
  go_enter Try.func43, Try.ntmps43
  go_wp2_with fail
  go_region_held3 (fun w' => w'.cell? ⟨p, 0, none⟩ = some (.slice (some ⟨gs, 0, none⟩) D.safe.length caps) ∧ w'.cell? ⟨p, 1, none⟩ = some (.slice (some ⟨gn, 0, none⟩) D.safe.length capn))
    (first | (refine ⟨?_, ?_⟩ <;> simpa using (by assumption)) | exact ⟨m5.cell' (by simpa using c0) hpg, m5.cell' (by simpa using c1) hpg⟩)
    (first
      | (refine copyB_step rfl _ _ rfl gs 0 D.safe.length caps rfl (some ⟨gn, 0, none⟩) D.safe.length capn rfl D.now HNN.out (Nat.le_refl _) (by exact hbn) curs 5 (by exact hgs) (by rw [HNN.out, Nat.zero_add]; omega) ?_; intro w5 hw5 m5))
  have m5' : Mod (fun k => k = gs) w w5 := (Mod.drew (fun k => k = gs) w).trans' m5
  have hp5 := m5'.obj h.at_ hpg
  have d2 : w5.cell? ⟨p, 2, none⟩ = some vl := by rw [cell_of_row w5 p 2 _ 129 (0, 0) hp5]; rfl
  have g2 := thaw_of (i := 2) hp5
  have hs5 := OwnB.laid (hss.mod (Mod.drew (fun _ => False) w) (fun _ _ => id)) (by exact hgs) hw5 (by rw [HNN.out]; omega)
  rw [splice_all _ _ HNN.out] at hs5
  go_wp2
  go_ret
  have m6 : Mod (fun k => k = p) w5 (w5.setCell ⟨p, 2, none⟩ (.slice none 0 0)) := Mod.setCell _ _ _ rfl
  refine ⟨rfl, (m5'.mono (fun _ _ e => .inr (.inl (by rw [hgo, e])))).trans m6 (fun _ _ e => .inl e), _, ⟨vs, vn, .slice none 0 0, ⟨hwf, ?_, h.hp, ?_, ?_, OwnC.nil _ _, h.apart⟩, rfl⟩, ?_⟩
  · rw [setCell_block hp5, hg, hb]; rfl
  · rw [es]
    exact hs5.mod m6 (fun k hk e => by cases hk; exact hpg e.symm)
  · show OwnB _ B vn D.now
    refine (h.now.mod m5' (fun k hk e => ?_)).mod m6 (fun k hk e => h.ne_sl.2.1 (by rw [hk, e]))
    rw [hgon] at hk
    cases hk
    exact hap e.symm
  · rintro k (e | e | e | e)
    · exact .inl (.inl e)
    · exact .inl (.inr (.inl e))
    · exact .inl (.inr (.inr (.inl e)))
    · simp [Value.ownBlock] at e
end Go.Proofs.Ytdinnkacilgmmaa
