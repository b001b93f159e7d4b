/- The reference's disk: Crash. -/
import Derived.Test.YtdinnkacilgmmaaRDisk4
namespace Go.Proofs.Ytdinnkacilgmmaa
open Go.RowKit

/-- a sector behind a crash's step -/
theorem sector_torn (s : List UInt8) (n : Nat) (b : List UInt8) (m : Nat) (hs : n * 256 + 256 ≤ s.length) (hb : b.length = 256) (hm : m ≤ 256) : sector (lay s n (b.take m)) n = b.take m ++ (sector s n).drop m := by
  apply List.ext_getElem?
  intro j
  rw [sector_get]
  unfold lay
  rw [splice_get' s (n * 256) (b.take m) (by rw [List.length_take]; omega), List.length_take, Nat.min_eq_left (by omega), List.getElem?_append, List.length_take, Nat.min_eq_left (by omega)]
  by_cases hj : j < 256
  · rw [if_pos hj]
    by_cases h : j < m
    · rw [if_pos (by omega), if_pos h]
      congr 1
      omega
    · rw [if_neg (by omega), if_neg h, List.getElem?_drop, sector_get, if_pos (by omega)]
      congr 1
      omega
  · rw [if_neg hj, if_neg (by omega), List.getElem?_drop, sector_get, if_neg (by omega)]

theorem torn_step (x s : List UInt8) (j : Nat) (hj : j < x.length) (hl : x.length = s.length) : (x.take j ++ s.drop j).set j x[j] = x.take (j + 1) ++ s.drop (j + 1) := by
  apply List.ext_getElem?
  intro i
  rw [List.getElem?_set]
  simp only [List.length_append, List.length_take, List.length_drop, List.getElem?_append, List.getElem?_take, List.getElem?_drop]
  by_cases e : j = i
  · subst e
    rw [if_pos rfl, if_pos (by omega), if_pos (by omega), if_pos (by omega), List.getElem?_eq_getElem hj]
  · rw [if_neg e]
    by_cases h : i < j
    · rw [if_pos (by omega), if_pos h, if_pos (by omega), if_pos (by omega)]
    · rw [if_neg (by omega), if_neg (by omega)]
      congr 1
      omega

section
variable {w : World} {B p : Nat} {vs vl : Value} {xs ys : List Value} {D : Dsk}

set_option maxHeartbeats 2000000 in
set_option maxRecDepth 100000 in
theorem rcrash_any (h : RV w B p vs vl xs ys D) (hlim : D.l.length ≤ 1048576) (a : Option Addr) (ks : List Int) (cap : Nat) (hk : IntsAt w a ks) (hkf : ∀ x, a = some x → ks ≠ [] → ¬ rfoot p vs vl xs ys x.block)
    (_hm : ks.length ≤ 140737488355328) :
    Calls Try.prog 92 #[.pointer (some ⟨p, 0, none⟩), .slice a ks.length cap] w fun e w' => e = .returned (.tuple #[]) ∧ Left (RDiskT B p (D.crash ks)) (rfoot p vs vl xs ys) w w' := by
  obtain ⟨c0, c1, c2, c3, c4⟩ := h.cell
  obtain ⟨as1, cs1, es, -, -, hpos⟩ := owns_shape h.safe
  obtain ⟨gs, rfl, hgs⟩ := hpos (by have := h.wf.pos; have := h.hx; omega)
  obtain ⟨al1, cl1, el, -, -, hposl⟩ := owns_shape h.l
  have hmx := h.wf.top
  have HES := Lib.hid es
  have HEL := Lib.hid el
  have HPL := Lib.hid hposl
  have HX := Lib.hid h.hx
  have HY := Lib.hid h.hy
  have HGS := Lib.hid hgs
  rw [es] at c0
  rw [el] at c1
  clear hposl es el hgs hpos
  go_enter Try.func92, Try.ntmps92
  go_wp2_with fail
  go_loopw [4] (fun v4 wr => ∃ (i : Nat) (s : List UInt8) (xs' : List Value), i ≤ D.l.length ∧ v4 = .int .i64 (i : Int) ∧ s.length = D.safe.length ∧ crashed s (D.l.drop i) (ks.drop i) = crashed D.safe D.l ks ∧ RV wr B p vs vl xs' ys { D with safe := s } ∧ Mod (rfoot p vs vl xs ys) w wr ∧
      ∀ x ∈ xs', x ∈ xs ∨ ∀ k, x.ownBlock = some k → w.heap.size ≤ k) (fun v4 _ => D.l.length - (intOf v4).toNat)
  case atStart => exact ⟨0, D.safe, xs, Nat.zero_le _, rfl, rfl, rfl, h, Mod.refl _ _, fun x hx => .inl hx⟩
  case round =>
    obtain ⟨i, s, xs', hi, rfl, hsl, hcr, hR, hmr, hsub⟩ := hrel
    obtain ⟨d0, d1, -⟩ := hR.cell
    have hxl := hR.hx
    have hNN : ({ D with safe := s } : Dsk).N = D.N := by unfold Dsk.N; rw [show ({ D with safe := s } : Dsk).safe = s from rfl, hsl]
    rw [HES.out] at d0
    rw [HEL.out] at d1
    rw [HX.out] at d0
    by_cases hlt : i < D.l.length
    · have hlt' : (i : Int) < (D.l.length : Int) := by omega
      obtain ⟨gl, rfl, hgl⟩ := HPL.out (by omega)
      have hiy : i < ys.length := by rw [HY.out]; exact hlt
      obtain ⟨y0, y1⟩ := hR.rows.2 gl hgl i hlt hiy
      have hxn := h.wf.l _ (List.getElem_mem hlt)
      have hey := hR.ey i hiy hlt
      have hnx : D.l[i].1 < xs'.length := by rw [hxl, hNN]; exact hxn.1
      obtain ⟨z0, z1⟩ := hR.rows.1 gs HGS.out _ hnx
      have hez := hR.ex _ hnx
      have hfit := h.wf.fit _ (List.getElem_mem hlt)
      have hs256 : D.l[i].1 * 256 + 256 ≤ s.length := by rw [hsl]; rw [hxn.2] at hfit; exact hfit
      have hnI : ((D.l[i].1 : Nat) : Int) < (D.N : Int) := by have := hxn.1; omega
      have hpg : p ≠ gs := fun e => h.ne.1 (by rw [HGS.out, e])
      have hlg : gl ≠ gs := fun e => h.ne.2.2.1 gl hgl (by rw [HGS.out, e])
      have hzl : (sector s D.l[i].1).length = 256 := sector_length s _ (D.l[i].1 + 1) (by omega) (by omega)
      have hcr2 : crashed (lay s D.l[i].1 (D.l[i].2.take (clamp ((ks.drop i).headD 0)))) (D.l.drop (i + 1)) (ks.drop (i + 1)) = crashed D.safe D.l ks := by
        rw [← hcr, List.drop_eq_getElem_cons hlt]
        show _ = crashed (lay s D.l[i].1 (D.l[i].2.take (clamp ((ks.drop i).headD 0)))) (D.l.drop (i + 1)) (ks.drop i).tail
        rw [List.tail_drop]
      obtain ⟨ay, cy, ey, -, -, hby⟩ := hey.shape
      obtain ⟨az, cz, ez, -, -, hbz⟩ := hez.shape
      rw [ey] at y1
      rw [ez] at z0
      have hzl' : (sector ({ D with safe := s } : Dsk).safe D.l[i].1).length = 256 := hzl
      rw [hzl'] at z0
      rw [hxn.2] at y1
      have hbz : BytesAt wr az (sector s D.l[i].1) := hbz
      have hle : B ≤ wr.heap.size := Nat.le_trans (by have := h.hp; have := (h.lt p (.inl rfl)).2; omega) hmr.size
      have hle0 : B ≤ w.heap.size := by have := h.hp; have := (h.lt p (.inl rfl)).2; omega
      have HYI : ∀ k, ys[i].ownBlock = some k → k < w.heap.size := fun k hk => (h.lt k (.inr (.inr (.inr (.inr ⟨_, List.getElem_mem hiy, hk⟩))))).2
      have HEY := Lib.hid hey
      have HR := Lib.hid hR
      have HSUB := Lib.hid hsub
      have HSL := Lib.hid hsl
      have HCR := Lib.hid hcr2
      have HNE := Lib.hid hpg
      have HNE2 := Lib.hid hlg
      have HZL := Lib.hid hzl
      have HXN := Lib.hid hxn
      have HNN := Lib.hid hNN
      have HEYV := Lib.hid ey
      have HBZ := Lib.hid hbz
      have HBY := Lib.hid hby
      have HS256 := Lib.hid hs256
      have HYI := Lib.hid HYI
      have HGL := Lib.hid hgl
      clear hR hey hez hfit hsub hxl hgl hpg hlg ey ez c0 c1 c2 c3 c4 hcr hcr2 hsl hNN hxn hzl hzl' hbz hby hs256
      obtain ⟨kk, hkk⟩ : ∃ kk : Int, kk = (ks.drop i).headD 0 := ⟨_, rfl⟩
      rw [← hkk] at HCR
      have HKK := Lib.hid hkk
      clear hkk
      go_upto_if 20 with fail
      go_cut [5] (fun v5 wx => v5 = .int .i64 kk ∧ wr = wx)
      case first =>
        by_cases hik : i < ks.length
        · obtain ⟨bk, ok, ea, hck⟩ := hk (by intro e; rw [e] at hik; simp at hik)
          subst ea
          have hik' : (i : Int) < (ks.length : Int) := by omega
          have hbn := hkf _ rfl (by intro e; rw [e] at hik; simp at hik)
          have xk := hmr.cell' (hck i hik) hbn
          have hkv : kk = ks[i] := by rw [HKK.out, List.drop_eq_getElem_cons hik]; rfl
          rw [← hkv] at xk
          clear hck hbn hkv
          go_wp2
          go_meet
          exact ⟨rfl, rfl⟩
        · have hik' : (ks.length : Int) ≤ (i : Int) := by omega
          go_wp2
          go_meet
          refine ⟨?_, rfl⟩
          rw [HKK.out, List.drop_of_length_le (by omega)]
          rfl
      case rest =>
        obtain ⟨rfl, rfl⟩ := hcut
        generalize D.l[i] = q at *
        generalize ys[i] = y at *
        generalize hzz : xs'[q.1] = z at *
        clear hzz
        go_upto_region 6 with fail
        have md : Mod (fun _ => False) wr wr.drew := Mod.drew _ _
        have FUL : ∀ w', wr.drew = w' → Calls Try.prog 89 #[.slice az 256 cz] w' fun e w'' => ∃ v, e = .returned v ∧ OwnB w'' w.heap.size v (sector s q.1) ∧ Mod (fun _ => False) wr w'' ∧ (∀ k, v.ownBlock = some k → wr.heap.size ≤ k) := fun w' e => by
          subst e
          exact (rfull_n az (sector s q.1) 256 cz HZL.out wr.drew w.heap.size (by have := hmr.size; simp; omega) (HBZ.out.mod md (fun _ _ _ => id)) (by rw [HZL.out]; decide)).mono fun e w'' ⟨v, h1, h2, h3, h4⟩ => ⟨v, h1, h2.to (sect_full _ HZL.out), md.trans' h3, h4⟩
        have FUL := Lib.hid FUL
        have e0 : wr.drew.cell? ⟨p, 0, none⟩ = some (.slice (some ⟨gs, 0, none⟩) D.N cs1) := by simpa using d0
        have e1 : wr.drew.cell? ⟨p, 1, none⟩ = some (.slice (some ⟨gl, 0, none⟩) D.l.length cl1) := by simpa using d1
        have e2 : wr.drew.cell? ⟨gl, i * 2, none⟩ = some (.int .i64 (q.1 : Int)) := by simpa using y0
        have e3 : wr.drew.cell? ⟨gs, q.1, none⟩ = some (.slice az 256 cz) := by simpa using z0
        go_region_held3 (fun w' => w'.cell? ⟨p, 0, none⟩ = some (.slice (some ⟨gs, 0, none⟩) D.N cs1) ∧ w'.cell? ⟨p, 1, none⟩ = some (.slice (some ⟨gl, 0, none⟩) D.l.length cl1) ∧ w'.cell? ⟨gl, i * 2, none⟩ = some (.int .i64 (q.1 : Int)) ∧ w'.cell? ⟨gs, q.1, none⟩ = some (.slice az 256 cz))
          (first
            | exact ⟨e0, e1, e2, e3⟩
            | exact ⟨hma.cell' d0 id, hma.cell' d1 id, hma.cell' y0 id, hma.cell' z0 id⟩)
          ((go_at_call 89; refine (FUL.out _ rfl).mono ?_; rintro e wa ⟨v6, rfl, hv6, hma, hn6⟩))
        obtain ⟨gb, cb, _, ev6, -, -, -, -, -, -⟩ := hv6.row (by intro e; have := HZL.out; rw [e] at this; cases this)
        rw [HZL.out] at ev6
        subst ev6
        have hgb : wr.heap.size ≤ gb := hn6 gb rfl
        have hcl : clamp kk ≤ 256 := by unfold clamp; omega
        have h00 : OwnB wa w.heap.size (.slice (some ⟨gb, 0, none⟩) 256 cb) (q.2.take 0 ++ (sector s q.1).drop 0) := by simpa using hv6
        have H00 := Lib.hid h00
        have HM0 := Lib.hid hma
        clear h00 hv6 hn6 e0 e1 e2 e3 hma
        go_upto_block 2 with fail
        go_cut [] (fun wx => OwnB wx w.heap.size (.slice (some ⟨gb, 0, none⟩) 256 cb) (q.2.take (clamp kk) ++ (sector s q.1).drop (clamp kk)) ∧ Mod (fun _ => False) wr wx)
        case first =>
          go_wp2_with fail
          go_loopw [7] (fun v7 wq => ∃ j : Nat, j ≤ clamp kk ∧ v7 = .int .i64 (j : Int) ∧ OwnB wq w.heap.size (.slice (some ⟨gb, 0, none⟩) 256 cb) (q.2.take j ++ (sector s q.1).drop j) ∧ Mod (fun _ => False) wr wq) (fun v7 _ => 256 - (intOf v7).toNat)
          case atStart => exact ⟨0, Nat.zero_le _, rfl, H00.out, HM0.out⟩
          case round =>
            obtain ⟨j, hj, rfl, ho, hmq⟩ := hrel
            clear H00 HM0
            by_cases hj2 : j < clamp kk
            · have hj256 : (j : Int) < 256 := by omega
              have hjk : (j : Int) < kk := by unfold clamp at hj2; omega
              have g0 := hmq.cell' d1 id
              have g1 := hmq.cell' y1 id
              have hjl : j < q.2.length := by rw [HXN.out.2]; omega
              have hbq := HBY.out.mod hmq (fun _ _ _ => id)
              obtain ⟨by1, oy1, eay, hcy⟩ := hbq (by intro e; rw [e] at hjl; simp at hjl)
              have g2 := hcy j hjl
              have htl : (q.2.take j ++ (sector s q.1).drop j).length = 256 := by rw [List.length_append, List.length_take, List.length_drop, HXN.out.2, HZL.out]; omega
              obtain ⟨x0, x1⟩ := ho.cellAt j (by rw [htl]; omega)
              have hst := ho.store j q.2[j]
              rw [torn_step q.2 (sector s q.1) j hjl (by rw [HXN.out.2, HZL.out])] at hst
              have HST := Lib.hid hst
              have HEAY := Lib.hid eay
              clear hst
              generalize (q.2.take j ++ (sector s q.1).drop j)[j] = b0 at *
              generalize q.2[j] = b1 at *
              clear hbq hcy htl hjl ho
              rw [HEAY.out] at g1
              go_wp2_with fail
              go_roundw
              case rel => exact ⟨j + 1, by omega, by go_num, HST.out, hmq.trans (Mod.setCell (F := fun k => k = gb) _ _ _ rfl) (fun k hk e => by omega)⟩
              case measure => simp [intOf]; omega
            · obtain rfl : j = clamp kk := by omega
              have hor : ¬ ((clamp kk : Nat) : Int) < 256 ∨ ¬ ((clamp kk : Nat) : Int) < kk := by unfold clamp; omega
              by_cases h256 : ((clamp kk : Nat) : Int) < 256
              · have hk2 : ¬ ((clamp kk : Nat) : Int) < kk := by omega
                generalize clamp kk = cc at *
                go_wp2
                go_meet
                exact ⟨ho, hmq⟩
              · generalize clamp kk = cc at *
                go_wp2
                go_meet
                exact ⟨ho, hmq⟩
        case rest =>
          obtain ⟨ho, hmx2⟩ := hcut
          clear H00 HM0
          have hRx := HR.out.mod hmx2 (fun _ _ => id)
          have hput := hRx.put q.1 (by rw [HNN.out]; exact HXN.out.1) (.slice (some ⟨gb, 0, none⟩) 256 cb) _ (lay s q.1 (q.2.take (clamp kk))) (ho.weaken hle0) gs HGS.out
            (lay_length s _ _ (by rw [List.length_take]; have := HS256.out; omega))
            (sector_torn s q.1 q.2 (clamp kk) HS256.out HXN.out.2 hcl)
            (fun m hm => sector_lay_off s _ _ _ (by rw [List.length_take]; have := HS256.out; omega) (by rw [List.length_take]; omega) hm)
          obtain ⟨hp1, hp2⟩ := hput
          have g0 := hmx2.cell' d0 id
          have g1 := hmx2.cell' d1 id
          have g2 := hmx2.cell' y0 id
          have g3 := hmx2.cell' z0 id
          have g4 := (hRx.rows.1 gs HGS.out q.1 (by rw [hRx.hx, HNN.out]; exact HXN.out.1)).2
          have HP1 := Lib.hid hp1
          have HP2 := Lib.hid hp2
          clear hRx hp1 hp2 ho hcl
          go_upto_region 11 with fail
          go_region_held3 (fun w' => w'.cell? ⟨p, 0, none⟩ = some (.slice (some ⟨gs, 0, none⟩) D.N cs1) ∧ w'.cell? ⟨p, 1, none⟩ = some (.slice (some ⟨gl, 0, none⟩) D.l.length cl1) ∧ w'.cell? ⟨gl, i * 2, none⟩ = some (.int .i64 (q.1 : Int)))
            (first
              | (refine ⟨?_, ?_, ?_⟩ <;> simpa using (by assumption))
              | exact ⟨(Mod.setCell (F := fun k => k = gs) _ _ _ rfl).cell' (by simpa using g0) HNE.out, (Mod.setCell (F := fun k => k = gs) _ _ _ rfl).cell' (by simpa using g1) HNE.out, (Mod.setCell (F := fun k => k = gs) _ _ _ rfl).cell' (by simpa using g2) HNE2.out⟩)
            (fail)
          have md2 : Mod (fun _ => False) (wc.setCell ⟨gs, q.1, none⟩ (.slice (some ⟨gb, 0, none⟩) 256 cb)) (wc.setCell ⟨gs, q.1, none⟩ (.slice (some ⟨gb, 0, none⟩) 256 cb)).drew := Mod.drew _ _
          have hrr := HP1.out.mod md2 (fun _ _ => id)
          have hmm : Mod (rfoot p vs vl xs ys) w (wc.setCell ⟨gs, q.1, none⟩ (.slice (some ⟨gb, 0, none⟩) 256 cb)).drew := ((hmr.trans hmx2 (fun _ _ e => e.elim)).trans HP2.out (fun k _ e => .inr (.inl (by rw [HGS.out, e])))).trans md2 (fun _ _ e => e.elim)
          have HRR := Lib.hid hrr
          have HMM := Lib.hid hmm
          clear hrr hmm md2
          go_wp2_with fail
          go_roundw
          case rel =>
            refine ⟨i + 1, _, _, by omega, by go_num, ?_, HCR.out, HRR.out, HMM.out, fun x hx => ?_⟩
            · rw [lay_length s _ _ (by rw [List.length_take]; have h1 := HS256.out; have h2 : clamp kk ≤ 256 := by unfold clamp; omega
                                       omega)]; exact HSL.out
            · rcases List.mem_or_eq_of_mem_set hx with hx | hx
              · exact HSUB.out x hx
              · rw [hx]
                refine .inr (fun k hk => ?_)
                simp [Value.ownBlock] at hk
                have := hmr.size
                omega
          case measure => simp [intOf]; omega
    · obtain rfl : i = D.l.length := by omega
      rw [List.drop_length] at hcr
      have hse : s = crashed D.safe D.l ks := hcr
      have t1 := thaw_of (i := 1) hR.at_
      have t2 := thaw_of (i := 2) hR.at_
      have t3 := thaw_of (i := 3) hR.at_
      have t4 := thaw_of (i := 4) hR.at_
      obtain ⟨-, -, d2, d3, d4⟩ := hR.cell
      obtain ⟨q1, q2⟩ := hR.clean
      have r1 := q1.flag 2 (.bool false) { safe := s, l := [], bad := false, full := D.full, gone := D.gone } rfl rfl rfl
      have r2 := r1.1.flag 3 (.bool false) { safe := s, l := [], bad := false, full := false, gone := D.gone } rfl rfl rfl
      have r3 := r2.1.flag 4 (.bool false) { safe := s, l := [], bad := false, full := false, gone := false } rfl rfl rfl
      have hfin := r3.1
      rw [show ({ safe := s, l := [], bad := false, full := false, gone := false } : Dsk) = D.crash ks by unfold Dsk.crash; rw [hse]] at hfin
      have hpn : ∀ k, rfoot p vs (.slice none 0 0) xs' [] k → rfoot p vs vl xs ys k ∨ w.heap.size ≤ k := by
        rintro k (e | e | e | ⟨x, hx, e⟩ | ⟨y, hy, e⟩)
        · exact .inl (.inl e)
        · exact .inl (.inr (.inl e))
        · simp [Value.ownBlock] at e
        · rcases hsub x hx with h2 | h2
          · exact .inl (.inr (.inr (.inr (.inl ⟨x, h2, e⟩))))
          · exact .inr (h2 k e)
        · cases hy
      have hmf : Mod (fun k => k = p) wr ((((wr.setCell ⟨p, 1, none⟩ (.slice none 0 0)).setCell ⟨p, 2, none⟩ (.bool false)).setCell ⟨p, 3, none⟩ (.bool false)).setCell ⟨p, 4, none⟩ (.bool false)) :=
        ((q2.trans' (Mod.setCell (F := fun k => k = p) _ _ _ rfl)).trans' (Mod.setCell (F := fun k => k = p) _ _ _ rfl)).trans' (Mod.setCell (F := fun k => k = p) _ _ _ rfl)
      have HFIN := Lib.hid hfin
      have HPN := Lib.hid hpn
      have HMF := Lib.hid hmf
      clear q1 q2 r1 r2 r3 hfin hpn hmf hR hsub hse hcr hsl hNN hxl
      go_wp2
      go_end0
      exact ⟨rfl, hmr.trans HMF.out (fun k _ e => .inl e), _, ⟨_, _, _, _, HFIN.out, rfl⟩, HPN.out⟩
end
end Go.Proofs.Ytdinnkacilgmmaa
