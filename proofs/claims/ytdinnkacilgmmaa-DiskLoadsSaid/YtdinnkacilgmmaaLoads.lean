/- DiskLoads: the walk. -/
import Derived.Test.YtdinnkacilgmmaaLift3
namespace Go.Proofs.Ytdinnkacilgmmaa
open Go.RowKit

/-! ### what a script's step keeps -/
theorem Dsk.wf.write_len {D : Dsk} (n : Int) (b : List UInt8) : (D.write n b).safe = D.safe ∧ (D.write n b).l.length ≤ D.l.length + 1 := by
  unfold Dsk.write; split
  · exact ⟨rfl, by simp⟩
  · exact ⟨rfl, by omega⟩
theorem Dsk.wf.sync_len {D : Dsk} (h : D.wf) : D.sync.safe.length = D.safe.length ∧ D.sync.l.length ≤ D.l.length + 1 := by
  unfold Dsk.sync; split
  · exact ⟨rfl, by omega⟩
  split
  · exact ⟨rfl, by simp⟩
  · exact ⟨h.now, by simp⟩
theorem Dsk.wf.crash_len {D : Dsk} (h : D.wf) (ks : List Int) : (D.crash ks).safe.length = D.safe.length ∧ (D.crash ks).l = [] := ⟨crashed_length _ _ _ h.fit, rfl⟩
theorem Dsk.wf.step_len {D : Dsk} (h : D.wf) (o : OpV) : (D.step o).safe.length = D.safe.length ∧ (D.step o).l.length ≤ D.l.length + 1 := by
  unfold Dsk.step
  split
  · have := Dsk.wf.write_len (D := D) o.n o.b
    exact ⟨by rw [this.1], this.2⟩
  split
  · exact h.sync_len
  split
  · exact ⟨rfl, by simp⟩
  split
  · exact ⟨rfl, by simp⟩
  split
  · exact ⟨(h.crash_len o.l).1, by rw [(h.crash_len o.l).2]; simp⟩
  · exact ⟨rfl, by omega⟩

theorem crashed_nil (s : List UInt8) : ∀ l : List (Nat × List UInt8), crashed s l [] = s := by
  intro l
  induction l with
  | nil => rfl
  | cons x r ih =>
    show crashed (lay s x.1 (x.2.take (clamp 0))) r [] = s
    rw [show clamp 0 = 0 by decide, List.take_zero, lay_nil, ih]

/-- string(b), of bytes that are owned -/
theorem run_strV {w : World} {B : Nat} {v : Value} {l : List UInt8} (h : OwnB w B v l) : (convert 22 9 v).run Try.prog w = .ok (.string ⟨l.toArray⟩) w := by
  obtain ⟨a, c, rfl, -, -, hb⟩ := h.shape
  exact run_str hb l.length c rfl

/-- the cells of an operation of a script, behind whatever the call has made -/
theorem op_here {W w : World} {b off j : Nat} {c0 c1 c2 c3 : Value} {o : OpV} (hb : Below W.heap.size W w) (h : OpIs W [c0, c1, c2, c3] o)
    (k0 : W.cell? ⟨b, off + j * 4, none⟩ = some c0) (k1 : W.cell? ⟨b, off + j * 4 + 1, none⟩ = some c1) (k2 : W.cell? ⟨b, off + j * 4 + 2, none⟩ = some c2) (k3 : W.cell? ⟨b, off + j * 4 + 3, none⟩ = some c3) :
    ∃ (ab : Option Addr) (cb : Nat) (al : Option Addr) (cl : Nat), w.cell? ⟨b, off + j * 4, none⟩ = some (.int .i64 o.kind) ∧ w.cell? ⟨b, off + j * 4 + 1, none⟩ = some (.int .i64 o.n) ∧
      w.cell? ⟨b, off + j * 4 + 2, none⟩ = some (.slice ab o.b.length cb) ∧ w.cell? ⟨b, off + j * 4 + 3, none⟩ = some (.slice al o.l.length cl) ∧
      BytesAt w ab o.b ∧ (ab = none → cb = 0) ∧ IntsAt w al o.l ∧ o.b.length ≤ 140737488351232 ∧ o.l.length ≤ 140737488351232 ∧ (∀ x, ab = some x → o.b ≠ [] → x.block < W.heap.size) ∧ (∀ x, al = some x → o.l ≠ [] → x.block < W.heap.size) := by
  obtain ⟨ab, cb, al, cl, e, h1, h2, h3, h4, h5⟩ := h.is
  simp only [List.cons.injEq, and_true] at e
  obtain ⟨rfl, rfl, rfl, rfl⟩ := e
  have hlt := World.block_lt_of_cell? _ _ k0
  have keep : ∀ t v, W.cell? ⟨b, t, none⟩ = some v → w.cell? ⟨b, t, none⟩ = some v := fun t v hv => (hb.cell (p := ⟨b, t, none⟩) hlt).trans hv
  have hl1 : ∀ x, ab = some x → o.b ≠ [] → x.block < W.heap.size := fun x hx hne => by subst hx; exact h1.lt hne
  have hl2 : ∀ x, al = some x → o.l ≠ [] → x.block < W.heap.size := fun x hx hne => by
    subst hx
    obtain ⟨b', off', e, hc⟩ := h3 hne
    cases e
    exact World.block_lt_of_cell? _ _ (hc 0 (List.length_pos_iff.2 hne))
  refine ⟨ab, cb, al, cl, keep _ _ k0, keep _ _ k1, keep _ _ k2, keep _ _ k3, h1.below hb hl1, h2, ?_, h4, h5, hl1, hl2⟩
  exact h3.mod (Mod.of_below hb) (fun x hx hne e => by have := hl2 x hx hne; omega)

set_option maxHeartbeats 2000000 in
set_option maxRecDepth 100000 in
theorem loads_walk (a : Option Addr) (l : List OpV) (cap : Nat) (w : World) (ha : OpsAt w a l) (_hm : l.length ≤ 140737488351232) :
    Calls Try.prog 9 #[.slice a l.length cap] w fun e w' => e = .returned (.bool true) ∧ Below w.heap.size w w' := by
  have hn := new_ok (w := w) (B := w.heap.size) (Nat.le_refl _) 5 (by decide) (by decide)
  go_enter Try.func9, Try.ntmps9
  go_wp2_with fail
  refine hn.mono ?_
  rintro e w1 ⟨v, rfl, p, F, rfl, d1, m1, n1⟩
  have l1 : Live w w.heap.size p (Dsk.of (List.replicate (5 * 256) 0)) w1 := ⟨m1.below (fun _ e => e.elim) (Nat.le_refl _), m1.size, F, d1⟩
  clear d1 m1 n1 F
  go_wp2_with fail
  go_loopw [5] (fun v5 wr => ∃ (k : Nat) (D : Dsk), k ≤ l.length ∧ k ≤ 60 ∧ v5 = .int .i64 (k : Int) ∧ D.safe.length = 5 * 256 ∧ D.l.length ≤ k ∧ Live w w.heap.size p D wr) (fun v5 _ => 60 - (intOf v5).toNat)
  case atStart => exact ⟨0, _, Nat.zero_le _, Nat.zero_le _, rfl, by show (List.replicate (5 * 256) (0 : UInt8)).length = _; rw [List.length_replicate], Nat.zero_le _, l1⟩
  case round =>
    obtain ⟨k, D, hk, hk6, rfl, hDs, hDl, hL⟩ := hrel
    rcases (by omega : ((k : Int) < (l.length : Int) ∧ (k : Int) < 60) ∨ ((l.length : Int) ≤ (k : Int)) ∨ ((k : Int) < (l.length : Int) ∧ 60 ≤ (k : Int))) with ⟨hlt', h60'⟩ | hlt' | ⟨hlt', h60'⟩
    · obtain ⟨hb, hB, F, hd⟩ := hL
      have hlt : k < l.length := by omega
      obtain ⟨bb, off, rfl, hops⟩ := ha (by intro e; rw [e] at hlt; simp at hlt)
      obtain ⟨c0, c1, c2, c3, k0, k1, k2, k3, hop⟩ := hops k hlt
      obtain ⟨ab, cb, al, cl, q0, q1, q2, q3, r1, r2, r3, r4, r5, r6, r7⟩ := op_here hb hop k0 k1 k2 k3
      generalize l[k] = o at *
      have hwf := hd.wf
      have hstep := hwf.step_len o
      go_wp2_with fail
      refine (do_any hd hB (by omega) o ab cb al cl r1 r2 r3 r4 r5 r6 r7).mono ?_
      rintro e w2 ⟨rfl, ht⟩
      go_wp2
      go_roundw
      case rel => exact ⟨k + 1, D.step o, by omega, by omega, by go_num, hstep.1.trans hDs, by have := hstep.2; omega, Live.turned hb hB hd ht⟩
      case measure => simp [intOf]; omega
    all_goals
      clear hDl
      obtain ⟨hb, hB, F, hd⟩ := hL
      have hwf := hd.wf
      have hN : D.N = 5 := by unfold Dsk.N; rw [hDs]
      have HDS := Lib.hid hDs
      clear hDs
      go_wp2_with fail
      refine (hd.image w.heap.size hB).mono ?_
      rintro e w2 ⟨vi, rfl, oi, m2, -⟩
      obtain ⟨ai, ci, rfl, -, -, hbi⟩ := oi.shape
      have hd2 := hd.mod m2 (fun _ _ => id)
      go_wp2_with fail
      refine (load_ok (B := w.heap.size) (Nat.le_trans hB m2.size) ai D.safe ci hbi (by rw [HDS.out]; decide) (by rw [HDS.out]; decide)).mono ?_
      rintro e w3 ⟨vc, rfl, pc, Fc, rfl, dc, m3, nc⟩
      have hd3 := hd2.mod m3 (fun _ _ => id)
      have hap : ∀ k, F k → ¬ Fc k := fun k hk hc => by have := nc k hc; have := (hd2.lt k hk).2; omega
      go_wp2_with fail
      refine (hd3.crash none [] 0 0 rfl (fun h => absurd rfl h) (fun x hx => by cases hx) (by decide)).mono ?_
      rintro e w4 ⟨rfl, m4, F', hd4, hF'⟩
      have dc4 := dc.mod m4 (fun k hc hk => hap k hk hc)
      have hb4 : Below w.heap.size w w4 := (hb.trans ((m2.trans' m3).below (fun _ e => e.elim) hB)).trans (m4.below (fun k hk => (hd3.lt k hk).1) (by have := m2.size; have := m3.size; omega))
      have hB4 : w.heap.size ≤ w4.heap.size := hb4.size
      have hDc : D.crash [] = Dsk.of D.safe := by unfold Dsk.crash; rw [crashed_nil]; rfl
      rw [hDc] at hd4
      generalize hDD : Dsk.of D.safe = E at *
      have hEN : E.N = 5 := by rw [← hDD]; exact hN
      have hEs : E.safe = D.safe := by rw [← hDD]; rfl
      have hEl : E.l = [] := by rw [← hDD]; rfl
      have hEg : E.gone = false := by rw [← hDD]; rfl
      clear hDD hDc hd hd2 hd3 dc hb hB m2 m3 m4 oi hbi hF' hap nc hN hwf
      go_wp2_with fail
      go_loopw [8] (fun v8 wr => ∃ i : Nat, i ≤ 5 ∧ v8 = .int .i64 (i : Int) ∧ DiskAt wr w.heap.size pc E Fc ∧ DiskAt wr w.heap.size p E F' ∧ Below w.heap.size w wr) (fun v8 _ => 5 - (intOf v8).toNat)
      case atStart => exact ⟨0, Nat.zero_le _, rfl, dc4, hd4, hb4⟩
      case round =>
        obtain ⟨i, hi, rfl, dci, hdi, hbi⟩ := hrel
        clear hb4 hB4 dc4 hd4
        have hBi := hbi.size
        by_cases hi5 : i < 5
        · have hi5' : (i : Int) < 5 := by omega
          have hwr : E.wrong (i : Int) = 0 := by unfold Dsk.wrong; rw [hEN]; rw [if_neg (by omega)]
          go_wp2_with fail
          refine (dci.read (i : Int) w.heap.size hBi).mono ?_
          rintro e wa ⟨va, rfl, oa, ma, -⟩
          rw [if_pos hwr] at oa
          rw [hwr]
          have hda := hdi.mod ma (fun _ _ => id)
          go_wp2_with fail
          refine (hda.read (i : Int) w.heap.size (Nat.le_trans hBi ma.size)).mono ?_
          rintro e wb ⟨vb, rfl, ob, mb, -⟩
          rw [if_pos hwr] at ob
          rw [hwr]
          have sa := run_strV (oa.mod mb (fun _ _ => id))
          have sb := run_strV ob
          go_wp2
          go_roundw
          case rel => exact ⟨i + 1, by omega, by go_num, (dci.mod ma (fun _ _ => id)).mod mb (fun _ _ => id), hda.mod mb (fun _ _ => id), hbi.trans ((ma.trans' mb).below (fun _ e => e.elim) hBi)⟩
          case measure => simp [intOf]; omega
        · obtain rfl : i = 5 := by omega
          go_wp2_with fail
          have S0 : DiskAt wr.drew w.heap.size pc E Fc ∧ DiskAt wr.drew w.heap.size p E F' ∧ Below w.heap.size w wr.drew := ⟨dci.mod (Mod.drew (fun _ => False) wr) (fun _ _ => id), hdi.mod (Mod.drew (fun _ => False) wr) (fun _ _ => id), hbi.drew⟩
          go_region_with (first
              | (go_at_call 34; obtain ⟨s1, s2, s3⟩ := (by assumption : DiskAt _ w.heap.size pc E Fc ∧ DiskAt _ w.heap.size p E F' ∧ Below w.heap.size w _);
                 first | (with_reducible refine (s1.image w.heap.size s3.size).mono ?_) | (with_reducible refine (s2.image w.heap.size s3.size).mono ?_);
                 rintro e wa ⟨va, rfl, oa, ma, -⟩; (have sa : ∀ w'', Mod (fun _ => False) wa w'' → (convert 22 9 va).run Try.prog w'' = .ok (.string ⟨E.safe.toArray⟩) w'' := fun w'' hm => run_strV (oa.mod hm (fun _ _ => id))); (have ra : Mod (fun _ => False) wa wa := Mod.refl _ _);
                 (have S1 : DiskAt wa w.heap.size pc E Fc ∧ DiskAt wa w.heap.size p E F' ∧ Below w.heap.size w wa := ⟨s1.mod ma (fun _ _ => id), s2.mod ma (fun _ _ => id), s3.trans (ma.below (fun _ e => e.elim) s3.size)⟩))
              | (go_at_call 38; obtain ⟨s1, s2, s3⟩ := (by assumption : DiskAt _ w.heap.size pc E Fc ∧ DiskAt _ w.heap.size p E F' ∧ Below w.heap.size w _); (with_reducible refine s2.dead.mono ?_); rintro e w' ⟨rfl, rfl⟩; (have S1 := And.intro s1 (And.intro s2 s3)))
              | (go_at_call 39; obtain ⟨s1, s2, s3⟩ := (by assumption : DiskAt _ w.heap.size pc E Fc ∧ DiskAt _ w.heap.size p E F' ∧ Below w.heap.size w _); (with_reducible refine s2.unsynced.mono ?_); rintro e w' ⟨rfl, rfl⟩; (have S1 := And.intro s1 (And.intro s2 s3)))
              | (go_at_call 35; obtain ⟨s1, s2, s3⟩ := (by assumption : DiskAt _ w.heap.size pc E Fc ∧ DiskAt _ w.heap.size p E F' ∧ Below w.heap.size w _); (with_reducible refine (known3_any _).mono ?_); rintro e w6 ⟨rfl, hb6⟩))
          all_goals
            go_wp2
            go_ret
            exact ⟨rfl, s3.next (Nat.le_refl _) hb6⟩

theorem loads_all (W : World) {v0 : Value} {l0 : List OpV} (o0 : RdO W v0 l0) :
    Calls Try.prog 9 #[v0] W fun e w' => e = .returned (.bool true) ∧ Below W.heap.size W w' := by
  obtain ⟨a0, c0, rfl, h0, m0⟩ := o0
  exact loads_walk a0 l0 c0 W h0 m0
end Go.Proofs.Ytdinnkacilgmmaa
