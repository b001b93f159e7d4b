/- The journal's fixed calls; what is not there. -/
import Derived.Test.YtdinnkacilgmmaaJour10
import Derived.Test.YtdinnkacilgmmaaRowsB
import Derived.Test.YtdinnkacilgmmaaSepZ
import Derived.Test.YtdinnkacilgmmaaLift3
namespace Go.Proofs.Ytdinnkacilgmmaa
open Go.RowKit

section
variable {w0 w : World} {B : Nat} {Ts : List (Thg B)}
theorem Apart.rows (h : Apart w0 B Ts w) (i : Nat) {v : Value} {ls : List (List UInt8)} (hi : Ts[i]? = some (BBT B v ls)) : ∃ a cap, v = .slice a ls.length cap ∧ RdBB w a ls := by
  obtain ⟨F, h⟩ := h.get i hi
  exact OBB.rd h
end

theorem whyApp_ok {J : Jr} {b : List UInt8} (hd : J.dead = false) (hb : b.length ≤ 8192) (hr : J.next + apN b ≤ J.start + J.size) : J.whyApp b = 0 := by
  unfold Jr.whyApp
  rw [if_neg (by rw [hd]; decide), if_neg (by omega), if_neg (by omega)]
theorem whyApp_full {J : Jr} {b : List UInt8} (hd : J.dead = false) (hb : b.length ≤ 8192) (hr : J.start + J.size < J.next + apN b) : J.whyApp b = 4 := by
  unfold Jr.whyApp
  rw [if_neg (by rw [hd]; decide), if_neg (by omega), if_pos hr]
theorem app_eq {J : Jr} {D : Dsk} {b : List UInt8} (h : J.whyApp b = 0) : J.app b = { J with next := J.next + apN b } ∧ (J.appD D b).l.length = D.l.length + apN b := by
  unfold Jr.app Jr.appD
  rw [if_pos h, if_pos h]
  exact ⟨rfl, by show (D.l ++ _).length = _; rw [List.length_append, apWrites_length]⟩
theorem appD_len (J : Jr) (D : Dsk) (b : List UInt8) : (J.appD D b).l.length ≤ D.l.length + 34 := by
  by_cases h : J.whyApp b = 0
  · rw [(app_eq h).2]
    unfold Jr.whyApp at h
    split at h
    · cases h
    split at h
    · cases h
    · unfold apN; omega
  · unfold Jr.appD; rw [if_neg h]; omega

/-- a journal just opened on noughts -/
theorem new_open (N frm size next : Nat) (hN1 : 1 ≤ N) (hN : N ≤ 4096) (hz : 2 ≤ size) (hf : frm + size ≤ N) (hn : 1 ≤ next) (hn2 : next ≤ 1152921504606846976) :
    JInv ⟨frm, size, next, next, false⟩ (Dsk.of (List.replicate (N * 256) 0)) [] ∧ Jr.opened frm size next (Dsk.of (List.replicate (N * 256) 0)) = ⟨frm, size, next, next, false⟩ ∧ openRecs frm size next (Dsk.of (List.replicate (N * 256) 0)) = [] ∧
      (Jr.opened frm size next (Dsk.of (List.replicate (N * 256) 0))).scrub (Dsk.of (List.replicate (N * 256) 0)) = Dsk.of (List.replicate (N * 256) 0) ∧ (Dsk.of (List.replicate (N * 256) 0)).N = N := by
  have h := JInv.new N frm size next hN1 hN (by omega) hf hn (by omega)
  obtain ⟨h1, h2, h3⟩ := h.open
  refine ⟨h, h1, h2, ?_, by simp [Dsk.of, Dsk.N]⟩
  have h1' : Jr.opened frm size next (Dsk.of (List.replicate (N * 256) 0)) = ⟨frm, size, next, next, false⟩ := h1
  rw [h1']
  exact h3
section
variable {w0 w : World} {B p : Nat} {Ts : List (Thg B)}
/-- Open on noughts -/
theorem Apart.jopenNew (h : Apart w0 B Ts w) (d : Nat) (N : Nat) (hd : Ts[d]? = some (DiskT B p (Dsk.of (List.replicate (N * 256) 0)))) (hN1 : 1 ≤ N) (hN : N ≤ 4096) (frm size next : Nat) (hz : 2 ≤ size) (hf : frm + size ≤ N) (hn1 : 1 ≤ next) (hn2 : next ≤ 1152921504606846976) :
    Calls Try.prog 53 #[.pointer (some ⟨p, 0, none⟩), .int .i64 (frm : Int), .int .i64 (size : Int), .int .i64 (next : Int)] w fun e w' =>
      ∃ q a c, e = .returned (.tuple #[.pointer (some ⟨q, 0, none⟩), .slice a 0 c, .int .i64 0]) ∧ Apart w0 B (Ts ++ [JT B q p ⟨frm, size, next, next, false⟩]) w' := by
  obtain ⟨h1, h2, h3, h4, h5⟩ := new_open N frm size next hN1 hN hz hf hn1 hn2
  refine (h.jopen d hd h1.fine frm size next (by omega) hz (by omega) hn1 hn2 (by simp [Dsk.of])).mono ?_
  rintro e w' ⟨q, v, rfl, L⟩
  rw [h4, h2, h3] at L
  have hdl := (List.getElem?_eq_some_iff.1 hd)
  have hs : Ts.set d (DiskT B p (Dsk.of (List.replicate (N * 256) 0))) = Ts := by
    obtain ⟨hl, e⟩ := hdl
    rw [← e]
    exact List.set_getElem_self hl
  rw [hs] at L
  obtain ⟨a, c, e, -⟩ := L.rows (Ts.length + 1) (v := v) (ls := []) (by simp)
  subst e
  refine ⟨q, a, c, rfl, ?_⟩
  have := L.take (Ts.length + 1)
  have e : List.take (Ts.length + 1) Ts = Ts := List.take_of_length_le (by omega)
  simpa [List.take_append, e] using this
/-- Open again -/
theorem Apart.jagain {J : Jr} {D : Dsk} {ls : List (List UInt8)} (h : Apart w0 B Ts w) (d : Nat) (hd : Ts[d]? = some (DiskT B p D)) (hj : JInv J D ls) (hz : 2 ≤ J.size) (hn2 : J.start ≤ 1152921504606846976) (hlim : D.l.length ≤ 1000000) :
    Calls Try.prog 53 #[.pointer (some ⟨p, 0, none⟩), .int .i64 (J.frm : Int), .int .i64 (J.size : Int), .int .i64 (J.start : Int)] w fun e w' =>
      ∃ q v, e = .returned (.tuple #[.pointer (some ⟨q, 0, none⟩), v, .int .i64 0]) ∧ Apart w0 B (Ts ++ [JT B q p J, BBT B v ls]) w' := by
  obtain ⟨h2, h3, h4⟩ := hj.open
  have := hj.fit
  refine (h.jopen d hd hj.fine J.frm J.size J.start (by omega) hz (by omega) hj.s1 hn2 hlim).mono ?_
  rintro e w' ⟨q, v, rfl, L⟩
  rw [h2, h3, h4] at L
  have hdl := (List.getElem?_eq_some_iff.1 hd)
  have hs : Ts.set d (DiskT B p D) = Ts := by
    obtain ⟨hl, e⟩ := hdl
    rw [← e]
    exact List.set_getElem_self hl
  rw [hs] at L
  exact ⟨q, v, rfl, L⟩
end

/-- what the fixed calls leave -/
theorem known4_plain : ∃ (J1 J2 : Jr) (D1 D2 : Dsk), (⟨0, 4, 1, 1, false⟩ : Jr).whyApp [97] = 0 ∧ (⟨0, 4, 1, 1, false⟩ : Jr).app [97] = J1 ∧ (⟨0, 4, 1, 1, false⟩ : Jr).appD (Dsk.of (List.replicate (4 * 256) 0)) [97] = D1 ∧ J1.next = 2 ∧
    J1.whyApp (List.replicate 500 0) = 0 ∧ J1.app (List.replicate 500 0) = J2 ∧ J1.appD D1 (List.replicate 500 0) = D2 ∧ J2.next = 5 ∧ J2.whyApp [] = 4 ∧ J2.app [] = J2 ∧ J2.appD D2 [] = D2 ∧
    JInv ⟨0, 4, 1, 1, false⟩ (Dsk.of (List.replicate (4 * 256) 0)) [] ∧ JInv J1 D1 [[97]] ∧ JInv J2 D2 [[97], List.replicate 500 0] ∧ JInv J2 D2.sync [[97], List.replicate 500 0] ∧ D1.l.length ≤ 100 ∧ D2.l.length ≤ 100 ∧ D2.sync.l.length ≤ 100 ∧ J2.frm = 0 ∧ J2.size = 4 ∧ J2.start = 1 := by
  have h0 := (new_open 4 0 4 1 (by decide) (by decide) (by decide) (by decide) (by decide) (by decide)).1
  have w1 : (⟨0, 4, 1, 1, false⟩ : Jr).whyApp [97] = 0 := whyApp_ok rfl (by decide) (by decide)
  obtain ⟨e1, l1⟩ := app_eq (D := Dsk.of (List.replicate (4 * 256) 0)) w1
  have h1 := h0.app [97]
  rw [if_pos w1] at h1
  have n1 : apN [97] = 1 := by decide
  rw [n1] at e1 l1
  have a2 : apN (List.replicate 500 (0 : UInt8)) = 3 := by unfold apN; rw [List.length_replicate]
  obtain ⟨J1, hJ1⟩ : ∃ J1, J1 = (⟨0, 4, 1, 1, false⟩ : Jr).app [97] := ⟨_, rfl⟩
  obtain ⟨D1, hD1⟩ : ∃ D1, D1 = (⟨0, 4, 1, 1, false⟩ : Jr).appD (Dsk.of (List.replicate (4 * 256) 0)) [97] := ⟨_, rfl⟩
  rw [← hJ1, ← hD1] at h1
  rw [← hJ1] at e1
  rw [← hD1] at l1
  have w2 : J1.whyApp (List.replicate 500 0) = 0 := whyApp_ok (by rw [e1]) (by rw [List.length_replicate]; decide) (by rw [a2, e1]; decide)
  obtain ⟨e2, l2⟩ := app_eq (D := D1) w2
  have h2 := h1.app (List.replicate 500 0)
  rw [if_pos w2] at h2
  obtain ⟨J2, hJ2⟩ : ∃ J2, J2 = J1.app (List.replicate 500 0) := ⟨_, rfl⟩
  obtain ⟨D2, hD2⟩ : ∃ D2, D2 = J1.appD D1 (List.replicate 500 0) := ⟨_, rfl⟩
  rw [← hJ2, ← hD2] at h2
  rw [← hJ2, a2, e1] at e2
  rw [← hD2, a2] at l2
  have l0 : (Dsk.of (List.replicate (4 * 256) 0)).l.length = 0 := rfl
  have w3 : J2.whyApp [] = 4 := whyApp_full (by rw [e2]) (by decide) (by rw [e2]; decide)
  have l3 : D2.sync.l.length = 0 := by rw [(sync_now h2.fine).2.1]; rfl
  refine ⟨J1, J2, D1, D2, w1, hJ1.symm, hD1.symm, by rw [e1], w2, hJ2.symm, hD2.symm, by rw [e2], w3, by unfold Jr.app; rw [w3]; rfl, by unfold Jr.appD; rw [w3]; rfl, h0, h1, h2, h2.sync, by omega, by omega, by omega, by rw [e2], by rw [e2], by rw [e2]⟩

set_option maxRecDepth 100000 in
set_option maxHeartbeats 2000000 in
theorem known4_any (w : World) : Calls Try.prog 58 #[] w fun e w' => e = .returned (.bool true) ∧ Below w.heap.size w w' := by
  have L0 : Apart w w.heap.size [] w := Apart.nil (Below.refl _ _) (Nat.le_refl _)
  obtain ⟨J1, J2, D1, D2, f1, f2, f3, f4, f5, f6, f7, f8, f9, f10, f11, i0, i1, i2, i3, g1, g2, g3, k1, k2, k3⟩ := known4_plain
  have kc := fun w C n c => Lib.run_convert_bytes_const (P := Try.prog) w 22 5 C n c Try.underlying22 Try.underlying5
  go_enter Try.func58, Try.ntmps58
  go_wp2_with fail
  refine (L0.newDisk 4 (by decide) (by decide)).mono ?_
  rintro e w1 ⟨p, rfl, L1⟩
  clear L0
  go_wp2_with fail
  refine (L1.jopenNew 0 4 rfl (by decide) (by decide) 0 4 1 (by decide) (by decide) (by decide) (by decide)).mono ?_
  rintro e w2 ⟨q, a2, c2, rfl, L2⟩
  replace L2 : Apart w w.heap.size [DiskT w.heap.size p (Dsk.of (List.replicate (4 * 256) 0)), JT w.heap.size q p ⟨0, 4, 1, 1, false⟩] w2 := L2
  clear L1
  go_wp2_with fail
  refine ((L2.alloc _).jappend 1 0 rfl rfl (by decide) i0 (by show 0 ≤ _; decide) _ [97] 1 _ rfl (by exact bytesAt_new' rfl rfl) (fun e => by cases e)).mono ?_
  rintro e w3 ⟨rfl, L3⟩
  rw [f1]
  rw [f2, f3] at L3
  replace L3 : Apart w w.heap.size [DiskT w.heap.size p D1, JT w.heap.size q p J1] w3 := L3
  clear L2
  go_wp2_with fail
  refine (L3.jnext 1 rfl).mono ?_
  rintro e w' ⟨rfl, rfl⟩
  rw [f4]
  have km : (Instr.makeSlice 22 (.int .i64 500) (.int .i64 500)).run Try.prog w3 = .ok (.slice (some ⟨w3.heap.size, 0, none⟩) 500 500) (w3.alloc (.cells (zerosV 500) 5)) := run_make_bytes w3 500 (by decide)
  go_wp2_with fail
  refine ((L3.alloc _).jappend 1 0 rfl rfl (by decide) i1 (by omega) _ (List.replicate 500 0) 500 _ (by rw [List.length_replicate]) (bytesAt_zeros' rfl) (fun e => by cases e)).mono ?_
  rintro e w4 ⟨rfl, L4⟩
  rw [f5]
  rw [f6, f7] at L4
  replace L4 : Apart w w.heap.size [DiskT w.heap.size p D2, JT w.heap.size q p J2] w4 := L4
  clear L3 km
  go_wp2_with fail
  refine (L4.jnext 1 rfl).mono ?_
  rintro e w' ⟨rfl, rfl⟩
  rw [f8]
  go_wp2_with fail
  refine (L4.jappend 1 0 rfl rfl (by decide) i2 (by omega) none [] 0 0 rfl (BytesAt.nil _ _) (fun _ => rfl)).mono ?_
  rintro e w5 ⟨rfl, L5⟩
  rw [f9]
  rw [f10, f11] at L5
  replace L5 : Apart w w.heap.size [DiskT w.heap.size p D2, JT w.heap.size q p J2] w5 := L5
  clear L4
  go_wp2_with fail
  refine (L5.jsync_ok 1 0 rfl rfl (by decide) i2).mono ?_
  rintro e w6 ⟨rfl, L6⟩
  replace L6 : Apart w w.heap.size [DiskT w.heap.size p D2.sync, JT w.heap.size q p J2] w6 := L6
  clear L5
  go_wp2_with fail
  have ho := L6.jagain 0 rfl i3 (by omega) (by omega) (by omega)
  rw [k1, k2, k3] at ho
  refine ho.mono ?_
  rintro e w7 ⟨q2, v, rfl, L7⟩
  replace L7 : Apart w w.heap.size [DiskT w.heap.size p D2.sync, JT w.heap.size q p J2, JT w.heap.size q2 p J2, BBT w.heap.size v [[97], List.replicate 500 0]] w7 := L7
  have hb := L7.bel
  obtain ⟨a, c, rfl, hrd⟩ := L7.rows 3 rfl
  obtain ⟨g, off, x0, rfl, c0, s0⟩ := hrd.here (i := 0) (by decide)
  obtain ⟨g', off', x1, e, c1, s1⟩ := hrd.here (i := 1) (by decide)
  cases e
  have s0' := s0.str
  obtain ⟨a1, cp1, rfl, -, -⟩ := s1
  simp only [List.getElem_cons_zero, List.getElem_cons_succ, List.length_cons, List.length_nil, List.length_replicate, Nat.add_zero, Nat.zero_add, Nat.reduceAdd] at c0 c1 s0' ⊢
  clear hrd s0 L6 L7 ho
  go_wp2
  go_ret
  exact ⟨rfl, hb⟩

theorem Apart.known4 {w0 w : World} {B : Nat} {Ts : List (Thg B)} (h : Apart w0 B Ts w) : Calls Try.prog 58 #[] w fun e w' => e = .returned (.bool true) ∧ Apart w0 B Ts w' :=
  (known4_any w).mono fun _ _ ⟨he, hb⟩ => ⟨he, h.next hb⟩

set_option maxHeartbeats 1000000 in
set_option maxRecDepth 100000 in
theorem jnil_walk (w : World) (a : Option Addr) (l c : Nat) (n : Int) :
    Calls Try.prog 18 #[.slice a l c, .int .i64 n] w fun e w' => e = .returned (.bool true) ∧ Below w.heap.size w w' := by
  have L0 : Apart w w.heap.size [] w := Apart.nil (Below.refl _ _) (Nat.le_refl _)
  go_enter Try.func18, Try.ntmps18
  go_wp2_with fail
  refine (open_nil 0 2 1).mono ?_
  rintro e w1 ⟨rfl, rfl⟩
  go_wp2_with fail
  refine (append_nil _ _ _).mono ?_
  rintro e w1 ⟨rfl, m1⟩
  have L1 := L0.still m1
  obtain ⟨n55, n60, n61, n57, n59, n62⟩ := jnil_calls w1
  go_wp2_with fail
  refine n55.mono ?_
  rintro e w2 ⟨rfl, rfl⟩
  go_wp2_with fail
  refine (n60 _).mono ?_
  rintro e w2 ⟨rfl, rfl⟩
  go_wp2_with fail
  refine n61.mono ?_
  rintro e w2 ⟨rfl, rfl⟩
  go_wp2_with fail
  refine n57.mono ?_
  rintro e w2 ⟨rfl, rfl⟩
  go_wp2_with fail
  refine n59.mono ?_
  rintro e w2 ⟨rfl, rfl⟩
  go_wp2_with fail
  refine n62.mono ?_
  rintro e w2 ⟨rfl, rfl⟩
  go_wp2_with fail
  refine L1.known4.mono ?_
  rintro e w2 ⟨rfl, L2⟩
  have hb := L2.bel
  go_wp2
  go_ret
  exact ⟨rfl, hb⟩

theorem jnil_all (W : World) {v0 : Value} {l0 : List UInt8} (o0 : RdB W v0 l0) {a1 : Int} {P : Prop} (_ : P) : Calls Try.prog 18 #[v0, .int .i64 a1] W fun e W' => e = .returned (.bool true) ∧ Below W.heap.size W W' := by
  obtain ⟨a, cap, rfl, -⟩ := o0
  exact jnil_walk W a _ cap a1
end Go.Proofs.Ytdinnkacilgmmaa
