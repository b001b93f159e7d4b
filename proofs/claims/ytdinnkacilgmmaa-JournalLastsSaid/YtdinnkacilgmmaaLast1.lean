/- JournalLasts, said plainly: what holds from call to call. -/
import Derived.Test.YtdinnkacilgmmaaLast0
import Derived.Test.YtdinnkacilgmmaaJLaw0
namespace Go.Proofs.Ytdinnkacilgmmaa
open Go.RowKit

structure LastI (J : Jr) (D : Dsk) (all : List (List UInt8)) (sure : Nat) : Prop where
  frm : J.frm = 0
  size : J.size = 12
  start : J.start = 1
  next : J.next ≤ 13
  wf : D.wf
  N : D.N = 12
  full : D.full = false
  dead : J.dead = D.gone
  stand : Stand (J.rd D) 1 all J.next
  clean : ∀ s, J.next ≤ s → J.rd D s = none
  safe : ∃ e, Stand (fun s => right (sector D.safe (J.place s)) s) 1 (all.take sure) e ∧ e ≤ J.next ∧ NumL (e - 1) D.l
  sure : sure ≤ all.length
  num : NumB D.safe

theorem place12 {J : Jr} (hf : J.frm = 0) (hz : J.size = 12) (s : Nat) : J.place s = (s - 1) % 12 := by unfold Jr.place; rw [hf, hz]; omega
theorem now_nil (D : Dsk) (h : D.l = []) : D.now = D.safe := by unfold Dsk.now; rw [h]; rfl

theorem LastI.len {J : Jr} {D : Dsk} {all : List (List UInt8)} {sure : Nat} (h : LastI J D all sure) : D.safe.length = 12 * 256 := by rw [h.wf.len, h.N]
theorem LastI.pos {J : Jr} {D : Dsk} {all : List (List UInt8)} {sure : Nat} (h : LastI J D all sure) : 1 ≤ J.next := by have := h.stand.le; omega

theorem LastI.app {J : Jr} {D : Dsk} {all : List (List UInt8)} {sure : Nat} (h : LastI J D all sure) (b : List UInt8) : LastI (J.app b) (J.appD D b) (if J.whyApp b = 0 then all ++ [b] else all) sure := by
  unfold Jr.app Jr.appD
  by_cases hw : J.whyApp b = 0
  · rw [if_pos hw, if_pos hw, if_pos hw]
    have hb : b.length ≤ 8192 ∧ J.next + apN b ≤ J.start + J.size := by
      unfold Jr.whyApp at hw
      split at hw
      · cases hw
      split at hw
      · cases hw
      split at hw
      · cases hw
      omega
    have h1 := h.start
    have h2 := h.size
    have h3 := h.pos
    have hN := h.N
    have hf := h.frm
    have hn := apN_pos b
    have hfit : J.frm + J.size ≤ D.N := by omega
    have e1 : ∀ s, ({ J with next := J.next + apN b } : Jr).rd (D.push (apWrites J b (List.range (apN b)))) s = J.rd (D.push (apWrites J b (List.range (apN b)))) s := fun _ => rfl
    have hfw := apWrites_fit (J := J) (b := b) h.wf (by omega) hfit (apN b)
    refine ⟨h.frm, h.size, h.start, by show J.next + apN b ≤ 13; omega, push_wf h.wf _ (fun x hx => ⟨(hfw x hx).1, (hfw x hx).2.2⟩), h.N, h.full, h.dead, ?_, ?_, ?_, by rw [List.length_append]; have := h.sure; omega, h.num⟩
    · refine Stand.append (e := J.next) (h.stand.congr (fun i hi hi2 => ?_)) (Stand.one (app_rec _ _ hb.1 (fun k hk => ?_)))
      · rw [e1]; exact rd_old h.wf (by omega) hfit (apN b) i (by omega) hi2 (by omega)
      · rw [e1]; exact rd_new h.wf (by omega) hfit (by omega) (by omega) (apN b) (by omega) (Nat.le_refl _) k hk
    · intro s hs
      have hs' : J.next + apN b ≤ s := hs
      rw [e1]; exact rd_clean h.wf (by omega) hfit (by omega) (by omega) (apN b) (by omega) s hs' (h.clean s (by omega))
    · obtain ⟨e, k1, k2, k3⟩ := h.safe
      refine ⟨e, ?_, by show e ≤ J.next + apN b; omega, fun x hx => ?_⟩
      · rw [List.take_append_of_le_length h.sure]; exact k1
      · rcases List.mem_append.1 hx with hx | hx
        · exact k3 x hx
        · obtain ⟨i, hi, rfl⟩ := apWrites_mem _ hx
          have hp : J.place (J.next + i) = J.next + i - 1 := by rw [place12 hf h2]; exact Nat.mod_eq_of_lt (by omega)
          dsimp only
          rw [hp]
          exact ⟨by omega, by omega, secB_length _ _ _ (apPiece_le b i), numS_secB _ _ _ (by omega) (by omega)⟩
  · rw [if_neg hw, if_neg hw, if_neg hw]; exact h

theorem LastI.sync {J : Jr} {D : Dsk} {all : List (List UInt8)} {sure : Nat} (h : LastI J D all sure) (hd : J.dead = false) : LastI { J with dead := D.whySync != 0 } D.sync all (if D.whySync = 0 then all.length else sure) := by
  have hg : D.gone = false := by rw [← h.dead]; exact hd
  by_cases hb : D.bad = true
  · have e1 : D.whySync = 20 := by unfold Dsk.whySync; rw [if_neg (by rw [hg]; decide), if_pos hb]
    have e2 : D.sync = { D with gone := true } := by unfold Dsk.sync; rw [if_neg (by rw [hg]; decide), if_pos hb]
    rw [e1, e2, if_neg (by decide)]
    exact ⟨h.frm, h.size, h.start, h.next, ⟨h.wf.len, h.wf.pos, h.wf.top, h.wf.l⟩, h.N, h.full, rfl, h.stand, h.clean, h.safe, h.sure, h.num⟩
  · have hb' : D.bad = false := by simpa using hb
    have hfine : D.fine := ⟨hb', h.full, hg⟩
    have e1 : D.whySync = 0 := by unfold Dsk.whySync; rw [if_neg (by rw [hg]; decide), if_neg hb]
    obtain ⟨s1, s2, s3, s4⟩ := sync_now hfine
    have hN : D.sync.N = 12 := by
      unfold Dsk.N; rw [s3, h.wf.now]; exact h.N
    have hw := h.wf.sync
    rw [e1, if_pos rfl]
    have erd : ∀ s, ({ J with dead := (0 : Int) != 0 } : Jr).rd D.sync s = J.rd D s := fun s => by show right (sector D.sync.now (J.place s)) s = _; rw [s1]; rfl
    obtain ⟨e, -, -, k3⟩ := h.safe
    refine ⟨h.frm, h.size, h.start, h.next, hw, hN, s4.full, by rw [s4.gone]; rfl, h.stand.congr (fun i _ _ => erd i), fun s hs => by rw [erd]; exact h.clean s hs, ⟨J.next, ?_, Nat.le_refl _, ?_⟩, Nat.le_refl _, ?_⟩
    · rw [List.take_length]
      refine h.stand.congr (fun i _ _ => ?_)
      show right (sector D.sync.safe (J.place i)) i = right (sector D.now (J.place i)) i
      rw [s3]
    · rw [s2]; intro x hx; cases hx
    · rw [s3]
      exact numB_layAll D.l D.safe h.len h.num k3
theorem LastI.fail {J : Jr} {D : Dsk} {all : List (List UInt8)} {sure : Nat} (h : LastI J D all sure) : LastI J { D with bad := true } all sure :=
  ⟨h.frm, h.size, h.start, h.next, ⟨h.wf.len, h.wf.pos, h.wf.top, h.wf.l⟩, h.N, h.full, h.dead, h.stand, h.clean, h.safe, h.sure, h.num⟩

set_option maxRecDepth 4000 in
/-- behind a crash, opened again -/
theorem LastI.crash {J : Jr} {D : Dsk} {all : List (List UInt8)} {sure : Nat} (h : LastI J D all sure) (ks : List Int) :
    (D.crash ks).fine ∧ (D.crash ks).N = 12 ∧ (D.crash ks).l.length = 0 ∧ LastI (Jr.opened 0 12 1 (D.crash ks)) ((Jr.opened 0 12 1 (D.crash ks)).scrub (D.crash ks)) (openRecs 0 12 1 (D.crash ks)) (openRecs 0 12 1 (D.crash ks)).length ∧
      ((Jr.opened 0 12 1 (D.crash ks)).scrub (D.crash ks)).l = [] ∧ sure ≤ (openRecs 0 12 1 (D.crash ks)).length := by
  obtain ⟨e, hst, hle, hnl⟩ := h.safe
  obtain ⟨n1, n2, n3⟩ := numB_crashed D.l D.safe ks h.len h.num hnl
  have hw := h.wf.crash ks
  have hfine : (D.crash ks).fine := ⟨rfl, rfl, rfl⟩
  have hl : (D.crash ks).l = [] := rfl
  have hs : (D.crash ks).safe = crashed D.safe D.l ks := rfl
  rw [← hs] at n1 n2 n3
  have hN : (D.crash ks).N = 12 := by unfold Dsk.N; rw [n2]
  have hnow := now_nil _ hl
  generalize D.crash ks = C at *
  refine ⟨hfine, hN, by rw [hl]; rfl, ?_⟩
  obtain ⟨J0, hJ0⟩ : ∃ J0 : Jr, J0 = ⟨0, 12, 1, 1, false⟩ := ⟨_, rfl⟩
  have hb := recs_bounds J0 C 13 1 (by rw [hJ0]; decide)
  have hstd := recs_stands J0 C 13 1 (by rw [hJ0]; decide)
  have hopen : Jr.opened 0 12 1 C = { J0 with next := (J0.recs C 13 1).2 } := by rw [hJ0]; rfl
  have hrecs : openRecs 0 12 1 C = (J0.recs C 13 1).1 := by rw [hJ0]; rfl
  have hsure : sure ≤ (openRecs 0 12 1 C).length := by
    have hst' : Stand (J0.rd C) J0.start (all.take sure) e := by
      rw [show J0.start = 1 by rw [hJ0]]
      refine hst.congr (fun i hi hi2 => ?_)
      have hn13 := h.next
      have p1 : J0.place i = i - 1 := by rw [place12 (by rw [hJ0]) (by rw [hJ0])]; exact Nat.mod_eq_of_lt (by omega)
      have p2 : J.place i = i - 1 := by rw [place12 h.frm h.size]; exact Nat.mod_eq_of_lt (by omega)
      show right (sector C.now (J0.place i)) i = right (sector D.safe (J.place i)) i
      rw [p1, p2, hnow, n3 (i - 1) (by omega) (by omega)]
    have hr := recs_stand (J := J0) hst' (by have := h.next; rw [hJ0]; show e ≤ 13; omega) 13 (by rw [hJ0]; decide)
    rw [show J0.start = 1 by rw [hJ0]] at hr
    rw [hrecs, hr, List.length_append, List.length_take]
    have := h.sure
    omega
  refine ⟨?_, ?_⟩
  rotate_left
  · refine ⟨?_, hsure⟩
    have hS := scrub_sectors (Jr.opened 0 12 1 C) C hw hfine (by rw [hopen, hJ0]; exact (by decide : 1 ≤ 12)) (by rw [hopen, hJ0, hN]; exact (by decide : 0 + 12 ≤ 12)) (by rw [hopen]; exact hb.1) (Jr.opened 0 12 1 C).size (Nat.le_refl _)
    obtain ⟨-, -, s3, s4, -, -⟩ := hS
    unfold Jr.scrub
    split
    · exact (sync_now s3).2.1
    · rename_i hf
      rw [s4 (by simpa using hf)]
      exact hl
  · rw [hrecs, hopen]
    obtain ⟨l, hlr⟩ : ∃ l, l = (J0.recs C 13 1).1 := ⟨_, rfl⟩
    obtain ⟨nx, hnx⟩ : ∃ nx, nx = (J0.recs C 13 1).2 := ⟨_, rfl⟩
    rw [← hlr, ← hnx] at hstd
    rw [← hnx] at hb
    rw [← hlr, ← hnx]
    have b1 : 1 ≤ nx ∧ nx ≤ 13 := by rw [hJ0] at hb; exact hb
    obtain ⟨J1, hJ1⟩ : ∃ J1 : Jr, J1 = { J0 with next := nx } := ⟨_, rfl⟩
    rw [← hJ1]
    have jf : J1.frm = 0 := by rw [hJ1, hJ0]
    have jz : J1.size = 12 := by rw [hJ1, hJ0]
    have js : J1.start = 1 := by rw [hJ1, hJ0]
    have jn : J1.next = nx := by rw [hJ1]
    have jd : J1.dead = false := by rw [hJ1, hJ0]
    have erd : ∀ s, J1.rd C s = J0.rd C s := fun s => by rw [hJ1]; rfl
    have hpl : ∀ s, J1.place s = (s - 1) % 12 := place12 jf jz
    obtain ⟨s1, s2, s3, s4, s5, s6⟩ := scrub_sectors J1 C hw hfine (by omega) (by omega) (by omega) 12 (by omega)
    rw [jn] at s5 s6
    -- a hit stands at its own place
    have hit : ∀ s, 1 ≤ s → (J1.rd C s).isSome = true → s ≤ 12 := fun s h1 h2 => by
      by_cases hc : s ≤ 12
      · exact hc
      · have : J1.rd C s = none := by
          unfold Jr.rd
          rw [hnow]
          exact numS_right (n1 (J1.place s) (by rw [hpl]; omega)) (by rw [hpl]; omega) (sector_len12 n2 _ (by rw [hpl]; omega)) h1 (by rw [hpl]; omega)
        rw [this] at h2; cases h2
    obtain ⟨S, hS⟩ : ∃ S, S = scrubGo J1 C 12 := ⟨_, rfl⟩
    rw [← hS] at s1 s2 s3 s4 s5 s6
    have hD : J1.scrub C = if S.2 = true then S.1.sync else S.1 := by unfold Jr.scrub; rw [jz, ← hS]
    have d1 : (J1.scrub C).now = S.1.now ∧ (J1.scrub C).safe = S.1.now ∧ (J1.scrub C).wf ∧ (J1.scrub C).fine ∧ (J1.scrub C).N = 12 ∧ (J1.scrub C).l = [] := by
      rw [hD]
      obtain ⟨t1, t2, t3, t4⟩ := sync_now s3
      split
      · refine ⟨t1, t3, s1.sync, t4, ?_, t2⟩
        unfold Dsk.N
        rw [t3, s1.now]
        exact s2.trans hN
      · rename_i hf
        have hSC : S.1 = C := s4 (by simpa using hf)
        rw [hSC]
        exact ⟨rfl, hnow.symm, hw, hfine, hN, hl⟩
    obtain ⟨d1, d2, d3, d4, d5, d6⟩ := d1
    have stay : ∀ m, m < 12 → (∀ k, k < 12 → J1.place (nx + k) = m → (J1.rd C (nx + k)).isSome = false) → sector (J1.scrub C).now m = sector C.now m := fun m hm hk => by
      rw [d1]; exact s5 m (by omega) hk
    have low : ∀ s, 1 ≤ s → s < nx → sector (J1.scrub C).now (J1.place s) = sector C.now (J1.place s) := fun s h1 h2 => by
      refine stay _ (by rw [hpl]; omega) (fun k hk he => ?_)
      cases hx : (J1.rd C (nx + k)).isSome with
      | false => rfl
      | true =>
        have := hit (nx + k) (by omega) hx
        rw [hpl, hpl] at he
        omega
    have numD : NumB (J1.scrub C).now := fun i hi => by
      by_cases hh : ∃ k, k < 12 ∧ J1.place (nx + k) = i ∧ (J1.rd C (nx + k)).isSome = true
      · obtain ⟨k, k1, k2, k3⟩ := hh
        rw [d1, ← k2, s6 k k1 k3]
        exact numS_zeros _
      · rw [stay i hi (fun k k1 k2 => by
          cases hx : (J1.rd C (nx + k)).isSome with
          | false => rfl
          | true => exact absurd ⟨k, k1, k2, hx⟩ hh), hnow]
        exact n1 i hi
    have hlenD : (J1.scrub C).now.length = 12 * 256 := by rw [d3.now, d3.len, d5]
    refine ⟨jf, jz, js, by omega, d3, d5, d4.full, by rw [jd, d4.gone], ?_, ?_, ⟨J1.next, ?_, Nat.le_refl _, by rw [d6]; intro x hx; cases hx⟩, Nat.le_refl _, by rw [d2, ← d1]; exact numD⟩
    · rw [jn]
      refine hstd.congr (fun i hi hi2 => ?_)
      unfold Jr.rd
      rw [low i hi hi2, hnow]
      have : J1.place i = J0.place i := by rw [hJ1]; rfl
      rw [this]
    · intro s hs
      rw [jn] at hs
      by_cases hc : s ≤ 12
      · by_cases hx : (J1.rd C s).isSome = true
        · have := s6 (s - nx) (by omega) (by rw [show nx + (s - nx) = s by omega]; exact hx)
          rw [show nx + (s - nx) = s by omega] at this
          unfold Jr.rd
          rw [d1, this]
          exact right_zeros _ _ (by omega)
        · have hn : J1.rd C s = none := by simpa using hx
          have := stay (J1.place s) (by rw [hpl]; omega) (fun k hk he => by
            cases hy : (J1.rd C (nx + k)).isSome with
            | false => rfl
            | true =>
              have := hit (nx + k) (by omega) hy
              rw [hpl, hpl] at he
              have : nx + k = s := by omega
              rw [this, hn] at hy
              cases hy)
          unfold Jr.rd at hn ⊢
          rw [this]; exact hn
      · unfold Jr.rd
        exact numS_right (numD (J1.place s) (by rw [hpl]; omega)) (by rw [hpl]; omega) (sector_len12 hlenD _ (by rw [hpl]; omega)) (by omega) (by rw [hpl]; omega)
    · rw [List.take_length, jn]
      refine hstd.congr (fun i hi hi2 => ?_)
      show right (sector (J1.scrub C).safe (J1.place i)) i = right (sector C.now (J0.place i)) i
      have : J1.place i = J0.place i := by rw [hJ1]; rfl
      rw [d2, ← d1, low i hi hi2, this]

/-- what the reference reads of the image -/
theorem LastI.image {J : Jr} {D : Dsk} {l : List (List UInt8)} {n : Nat} (h : LastI J D l n) (hl : D.l = []) : (Dsk.of D.safe).wf ∧ (Dsk.of D.safe).N = 12 ∧ openRecs 0 12 1 (Dsk.of D.safe) = l ∧ ∀ s, (Jr.opened 0 12 1 (Dsk.of D.safe)).next ≤ s → (Jr.opened 0 12 1 (Dsk.of D.safe)).rd (Dsk.of D.safe) s = none := by
  have hlen := h.len
  have hN : (Dsk.of D.safe).N = 12 := by show D.safe.length / 256 = 12; rw [hlen]
  obtain ⟨J0, hJ0⟩ : ∃ J0 : Jr, J0 = ⟨0, 12, 1, 1, false⟩ := ⟨_, rfl⟩
  have hnow := now_nil D hl
  have hpl : ∀ s, J0.place s = J.place s := fun s => by rw [place12 (by rw [hJ0]) (by rw [hJ0]), place12 h.frm h.size]
  have erd : ∀ s, J0.rd (Dsk.of D.safe) s = J.rd D s := fun s => by
    show right (sector D.safe (J0.place s)) s = right (sector D.now (J.place s)) s
    rw [hpl, hnow]
  have hst : Stand (J0.rd (Dsk.of D.safe)) J0.start l J.next := by
    rw [show J0.start = 1 by rw [hJ0]]
    exact h.stand.congr (fun i _ _ => erd i)
  have hr := recs_stand (J := J0) hst (by have := h.next; rw [hJ0]; exact this) 13 (by rw [hJ0]; decide)
  rw [recs_end (J := J0) (D := Dsk.of D.safe) (e := J.next) (by rw [erd]; exact h.clean _ (Nat.le_refl _)), List.append_nil] at hr
  have hr2 : J0.recs (Dsk.of D.safe) (12 + 1) 1 = (l, J.next) := by
    have : J0.start = 1 := by rw [hJ0]
    rw [this] at hr; exact hr
  refine ⟨Dsk.of_wf _ ⟨by rw [hlen], by rw [hlen]; decide, by rw [hlen]; decide⟩, hN, ?_, fun s hs => ?_⟩
  · unfold openRecs
    rw [← hJ0, hr2]
  · have hn : (Jr.opened 0 12 1 (Dsk.of D.safe)).next = J.next := by
      unfold Jr.opened
      rw [← hJ0, hr2]
    rw [hn] at hs
    have : (Jr.opened 0 12 1 (Dsk.of D.safe)).rd (Dsk.of D.safe) s = J0.rd (Dsk.of D.safe) s := by rw [hJ0]; rfl
    rw [this, erd]
    exact h.clean s hs
end Go.Proofs.Ytdinnkacilgmmaa
