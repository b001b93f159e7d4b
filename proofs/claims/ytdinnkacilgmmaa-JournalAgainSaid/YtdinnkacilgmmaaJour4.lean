/- The journal: scrub. -/
import Derived.Test.YtdinnkacilgmmaaJour3
namespace Go.Proofs.Ytdinnkacilgmmaa
open Go.RowKit

/-- what stands where records will be is gone: behind n numbers -/
def scrubGo (J : Jr) (D : Dsk) : Nat → Dsk × Bool
  | 0 => (D, false)
  | n + 1 => if (J.rd (scrubGo J D n).1 (J.next + n)).isSome = true then ((scrubGo J D n).1.write (J.place (J.next + n) : Int) [], true) else scrubGo J D n
def Jr.scrub (J : Jr) (D : Dsk) : Dsk := if (scrubGo J D J.size).2 = true then (scrubGo J D J.size).1.sync else (scrubGo J D J.size).1

structure Dsk.fine (D : Dsk) : Prop where
  bad : D.bad = false
  full : D.full = false
  gone : D.gone = false

theorem Dsk.fine.why {D : Dsk} (h : D.fine) (n : Nat) (hn : n < D.N) (b : List UInt8) (hb : b.length ≤ 256) : D.why (n : Int) b = 0 := by
  unfold Dsk.why
  rw [if_neg (by rw [h.gone]; decide), if_neg (by omega), if_neg (by omega), if_neg (by rw [h.full]; decide)]

theorem scrub_keeps (J : Jr) (D : Dsk) (h : D.fine) : ∀ n, (scrubGo J D n).1.safe = D.safe ∧ (scrubGo J D n).1.l.length ≤ D.l.length + n ∧ (scrubGo J D n).1.fine := by
  intro n
  induction n with
  | zero => exact ⟨rfl, by simp [scrubGo], h⟩
  | succ n ih =>
    obtain ⟨h1, h2, h3⟩ := ih
    simp only [scrubGo]
    split
    · unfold Dsk.write
      split
      · exact ⟨h1, by simp; omega, ⟨h3.bad, h3.full, h3.gone⟩⟩
      · exact ⟨h1, Nat.le_succ_of_le h2, h3⟩
    · exact ⟨h1, Nat.le_succ_of_le h2, h3⟩

set_option maxHeartbeats 4000000 in
set_option maxRecDepth 100000 in
theorem scrub_any {w : World} {B q p : Nat} {J : Jr} {D : Dsk} {F : Nat → Prop} (hj : JAt w q p J) (hd : DiskAt w B p D F) (hq : ¬ F q) (hfine : D.fine) (hs1 : 1 ≤ J.next) (hs2 : J.next + J.size ≤ 2305843009213693952) (hz1 : 1 ≤ J.size) (hfit : J.frm + J.size ≤ D.N) (hlim : D.l.length ≤ 1000000) :
    Calls Try.prog 96 #[.pointer (some ⟨q, 0, none⟩)] w fun e w' => e = .returned (.int .i64 0) ∧ Turned w B p F (J.scrub D) w' := by
  obtain ⟨c0, -, c2, -, c4, -⟩ := hj.cell
  have htop := hd.wf.top
  have hz2 : J.size ≤ 4096 := by omega
  have hf : J.frm ≤ 4096 := by omega
  have HK := Lib.hid (scrub_keeps J D hfine)
  have hND : ∀ n, (scrubGo J D n).1.N = D.N := fun n => by unfold Dsk.N; rw [(scrub_keeps J D hfine n).1]
  have HND := Lib.hid hND
  have hplc : ∀ k, J.place k < D.N := fun k => by
    have := Nat.mod_lt (k - 1) (show 0 < J.size by omega)
    unfold Jr.place
    omega
  have HPL := Lib.hid hplc
  have HJ := Lib.hid hj
  have hpw : DiskAt w B p D F := hd
  clear hND hplc hj
  go_enter Try.func96, Try.ntmps96
  go_upto_block 0 with fail
  go_cut [3] (fun v3 wx => ∃ F', v3 = .bool (scrubGo J D J.size).2 ∧ DiskAt wx B p (scrubGo J D J.size).1 F' ∧ Mod F w wx ∧ ∀ k, F' k → F k ∨ w.heap.size ≤ k)
  case first =>
    go_wp2_with fail
    go_loopw [3, 13] (fun v3 v13 wr => ∃ (n : Nat) (F' : Nat → Prop), n ≤ J.size ∧ v13 = .int .i64 (n : Int) ∧ v3 = .bool (scrubGo J D n).2 ∧ DiskAt wr B p (scrubGo J D n).1 F' ∧ Mod F w wr ∧ ∀ k, F' k → F k ∨ w.heap.size ≤ k) (fun _ v13 _ => J.size - (intOf v13).toNat)
    case atStart => exact ⟨0, F, Nat.zero_le _, rfl, rfl, hpw, Mod.refl _ _, fun k hk => .inl hk⟩
    case round =>
      obtain ⟨n, F', hn, rfl, rfl, hdn, hm, hsub⟩ := hrel
      by_cases hlt : n < J.size
      · have hlt' : (n : Int) < (J.size : Int) := by omega
        obtain ⟨k1, k2, k3⟩ := HK.out n
        have hN := HND.out n
        have hjr := HJ.out.mod hm hq
        have d0 := hm.cell' c0 hq
        have d4 := hm.cell' c4 hq
        have hat := jat_any hjr hdn (J.next + n) (by omega) (by omega) hf hz1 hz2 (by rw [hN]; exact HPL.out _)
        rw [show ((J.next + n : Nat) : Int) = (J.next : Int) + (n : Int) by omega] at hat
        have hsucc : scrubGo J D (n + 1) = if (J.rd (scrubGo J D n).1 (J.next + n)).isSome = true then ((scrubGo J D n).1.write (J.place (J.next + n) : Int) [], true) else scrubGo J D n := rfl
        have hwhy := k3.why (J.place (J.next + n)) (by rw [hN]; exact HPL.out _) [] (by decide)
        have hlim2 : (scrubGo J D n).1.l.length + 1 ≤ 1048576 := by omega
        rw [show right (sector (scrubGo J D n).1.now (J.place (J.next + n))) (J.next + n) = J.rd (scrubGo J D n).1 (J.next + n) from rfl] at hat
        have HS := Lib.hid hsucc
        have HW := Lib.hid hwhy
        have HAT := Lib.hid hat
        have hsI : (J.next : Int) + (n : Int) ≤ 2305843009213693952 := by omega
        have HSUB := Lib.hid hsub
        have HQ2 : ¬ F' q := fun e => by
          rcases hsub q e with h | h
          · exact hq h
          · have := lt_of_block HJ.out; omega
        clear hsucc hwhy hat k1 k2 k3 hN hsub
        generalize scrubGo J D n = E at *
        go_wp2_with fail
        refine HAT.out.mono ?_
        rintro e w3 ⟨ha, hm3⟩
        rcases ha with ⟨hnone, rfl⟩ | ⟨f, pc, g, hsome, rfl, -, -⟩
        · have hE : scrubGo J D (n + 1) = E := by rw [HS.out, hnone]; rfl
          have HE := Lib.hid hE
          clear hE HS HAT hnone
          go_wp2
          go_roundw
          case rel => exact ⟨n + 1, F', by omega, by go_num, by rw [HE.out], by rw [HE.out]; exact hdn.mod hm3 (fun _ _ => id), hm.trans hm3 (fun _ _ e => e.elim), HSUB.out⟩
          case measure => simp [intOf]; omega
        · have hE : scrubGo J D (n + 1) = (E.1.write (J.place (J.next + n) : Int) [], true) := by rw [HS.out, hsome]; rfl
          have HE := Lib.hid hE
          clear hE HS HAT hsome
          have hd3 := hdn.mod hm3 (fun _ _ => id)
          have hj3 := hjr.mod hm3 id
          have e0 := hm3.cell' d0 id
          have e4 := hm3.cell' d4 id
          have KP : ∀ w', Mod (fun _ => False) w3 w' → Calls Try.prog 100 #[.pointer (some ⟨q, 0, none⟩), .int .i64 ((J.next : Int) + (n : Int))] w' fun e w'' => e = .returned (.int .i64 (J.place (J.next + n) : Int)) ∧ Mod (fun _ => False) w3 w'' := fun w' hm' => by
            have := place_any (hj3.mod hm' id) (J.next + n) (by omega) (by omega) hf hz1 hz2
            rw [show ((J.next + n : Nat) : Int) = (J.next : Int) + (n : Int) by omega] at this
            exact this.mono fun e w'' ⟨he, h2⟩ => ⟨he, hm'.trans' h2⟩
          have KW : ∀ w', Mod (fun _ => False) w3 w' → Calls Try.prog 40 #[.pointer (some ⟨p, 0, none⟩), .int .i64 (J.place (J.next + n) : Int), .slice none 0 0] w' fun e w'' => e = .returned (.int .i64 0) ∧ Turned w3 B p F' (E.1.write (J.place (J.next + n) : Int) []) w'' := fun w' hm' =>
            ((hd3.mod hm' (fun _ _ => id)).write hlim2 (J.place (J.next + n) : Int) none [] 0 0 rfl (BytesAt.nil _ _) (by decide)).mono fun e w'' ⟨he, ht⟩ => ⟨by rw [he, HW.out], ht.pre hm'⟩
          replace KP := Lib.hid KP
          replace KW := Lib.hid KW
          clear hdn hd3 hj3 hjr d0 d4
          go_upto_region 8 with fail
          have md3 : Mod (fun _ => False) w3 w3.drew := Mod.drew _ _
          have wn : IntKind.i64.wrap ((J.next : Int) + (n : Int)) = (J.next : Int) + (n : Int) := IntWalk.i64_in _ (by omega)
          go_cut [8] (fun v8 wx => v8 = .int .i64 0 ∧ Turned w3 B p F' (E.1.write (J.place (J.next + n) : Int) []) wx)
          case first =>
            go_region_held3 (fun w' => w'.cell? ⟨q, 0, none⟩ = some (.pointer (some ⟨p, 0, none⟩)) ∧ w'.cell? ⟨q, 4, none⟩ = some (.int .i64 (J.next : Int)))
              (first
                | (refine ⟨?_, ?_⟩ <;> simpa using (by assumption))
                | exact ⟨hma.cell' e0 id, hma.cell' e4 id⟩
                | exact ⟨htw.1.cell' e0 HQ2, htw.1.cell' e4 HQ2⟩)
              (first
                | (go_at_call 100; (with_reducible refine (KP.out _ md3).mono ?_); rintro e wa ⟨rfl, hma⟩)
                | (go_at_call 40; (with_reducible refine (KW.out _ hma).mono ?_); rintro e wb ⟨rfl, htw⟩))
            clear wn
            go_wp2_with fail
            go_meet
            exact ⟨rfl, htw⟩
          case rest =>
            obtain ⟨rfl, htw⟩ := hcut
            clear wn
            obtain ⟨hmw, F2, hd4, hF2⟩ := htw
            have hsz3 : w.heap.size ≤ w3.heap.size := Nat.le_trans hm.size hm3.size
            go_wp2
            go_roundw
            case rel =>
              refine ⟨n + 1, F2, by omega, by go_num, by rw [HE.out], by rw [HE.out]; exact hd4, (hm.trans hm3 (fun _ _ e => e.elim)).trans hmw (fun k hk e => ?_), fun k hk => ?_⟩
              · rcases HSUB.out k e with h | h
                · exact h
                · omega
              · rcases hF2 k hk with h | h
                · exact HSUB.out k h
                · exact .inr (by omega)
            case measure => simp [intOf]; omega
      · obtain rfl : n = J.size := by omega
        go_wp2
        go_meet
        exact ⟨F', rfl, hdn, hm, hsub⟩
  case rest =>
    obtain ⟨F', rfl, hdn, hm, hsub⟩ := hcut
    have d0 := hm.cell' c0 hq
    have hfn := (HK.out J.size).2.2
    cases hany : (scrubGo J D J.size).2
    · have hsc : J.scrub D = (scrubGo J D J.size).1 := by unfold Jr.scrub; rw [hany]; rfl
      have HSC := Lib.hid hsc
      clear hsc hfn hany
      go_wp2
      go_ret
      exact ⟨rfl, hm, F', by rw [HSC.out]; exact hdn, hsub⟩
    · have hsc : J.scrub D = (scrubGo J D J.size).1.sync := by unfold Jr.scrub; rw [hany, if_pos rfl]
      have hws : (scrubGo J D J.size).1.whySync = 0 := by unfold Dsk.whySync; rw [if_neg (by rw [hfn.gone]; decide), if_neg (by rw [hfn.bad]; decide)]
      have HSC := Lib.hid hsc
      have HWS := Lib.hid hws
      clear hsc hfn hany hws
      go_wp2_with fail
      refine hdn.sync.mono ?_
      rintro e w5 ⟨rfl, hmw, F2, hd4, hF2⟩
      rw [HWS.out]
      have hsz := hm.size
      go_wp2
      go_ret
      refine ⟨rfl, hm.trans hmw (fun k hk e => ?_), F2, by rw [HSC.out]; exact hd4, fun k hk => ?_⟩
      · rcases hsub k e with h | h
        · exact h
        · omega
      · rcases hF2 k hk with h | h
        · exact hsub k h
        · exact .inr (by omega)
end Go.Proofs.Ytdinnkacilgmmaa
