/- JournalAgain: the walk. -/
import Derived.Test.YtdinnkacilgmmaaRowsC
namespace Go.Proofs.Ytdinnkacilgmmaa
open Go.RowKit

theorem app_same (J : Jr) (b : List UInt8) : (J.app b).frm = J.frm ∧ (J.app b).size = J.size ∧ (J.app b).start = J.start := by
  unfold Jr.app
  split <;> exact ⟨rfl, rfl, rfl⟩
def TG (w0 : World) (p q : Nat) (D : Dsk) (J : Jr) (v : Value) (ls : List (List UInt8)) : List (Thg w0.heap.size) := [DiskT w0.heap.size p D, JT w0.heap.size q p J, AllT w0 w0.heap.size v ls]
theorem BoolsAt.here {w0 w : World} {a : Option Addr} {l : List Bool} (h : BoolsAt w0 a l) (hb : Below w0.heap.size w0 w) {i : Nat} (hi : i < l.length) : ∃ b off, a = some ⟨b, off, none⟩ ∧ w.cell? ⟨b, off + i, none⟩ = some (.bool l[i]) := by
  obtain ⟨b, off, e, hc⟩ := h (by intro e; rw [e] at hi; simp at hi)
  exact ⟨b, off, e, (hb.cell (p := ⟨b, off + i, none⟩) (World.block_lt_of_cell? _ _ (hc i hi))).trans (hc i hi)⟩

set_option maxHeartbeats 4000000 in
set_option maxRecDepth 100000 in
theorem again_walk (a : Option Addr) (l : List (List UInt8)) (cap : Nat) (ay : Option Addr) (ly : List Bool) (capy : Nat) (s : Int) (w : World) (ha : RdBB w a l) (hy : BoolsAt w ay ly) :
    Calls Try.prog 15 #[.slice a l.length cap, .slice ay ly.length capy, .int .i64 s] w fun e w' => e = .returned (.bool true) ∧ Below w.heap.size w w' := by
  have L0 : Apart w w.heap.size [] w := Apart.nil (Below.refl _ _) (Nat.le_refl _)
  obtain ⟨C, hC⟩ : ∃ C : Nat, (C : Int) = s % 3 := ⟨(s % 3).toNat, by omega⟩
  have hC6 : C ≤ 2 := by omega
  have KC : ∀ w, Calls Try.prog 26 #[.int .i64 s, .int .i64 3] w fun e w' => e = .returned (.int .i64 (C : Int)) ∧ w = w' := fun w => by rw [hC]; exact count_any s 3 w (by decide) (by decide)
  have HC := Lib.hid hC
  clear hC
  go_enter Try.func15, Try.ntmps15
  go_wp2_with fail
  refine (L0.newDisk 60 (by decide) (by decide)).mono ?_
  rintro e w1 ⟨p, rfl, L1⟩
  clear L0
  go_wp2_with fail
  refine (L1.jopenNew 0 60 rfl (by decide) (by decide) 3 57 9 (by decide) (by decide) (by decide) (by decide)).mono ?_
  rintro e w2 ⟨q, a2, c2, rfl, L2⟩
  have hI := (new_open 60 3 57 9 (by decide) (by decide) (by decide) (by decide) (by decide) (by decide)).1
  have L3 := L2.allNil
  replace L3 : Apart w w.heap.size (TG w p q (Dsk.of (List.replicate (60 * 256) 0)) ⟨3, 57, 9, 9, false⟩ (.slice none 0 0) []) w2 := L3
  clear L1 L2
  go_upto_block 0 with fail
  go_cut [12] (fun v12 wx => ∃ (J : Jr) (D : Dsk) (ls : List (List UInt8)), JInv J D ls ∧ J.frm = 3 ∧ J.size = 57 ∧ J.start = 9 ∧ D.l.length ≤ 1000 ∧ ls.length ≤ 20 ∧ Apart w w.heap.size (TG w p q D J v12 ls) wx)
  case first =>
    go_wp2_with fail
    go_loopw [12, 13] (fun v12 v13 wr => ∃ (i : Nat) (J : Jr) (D : Dsk) (ls : List (List UInt8)), i ≤ l.length ∧ i ≤ 20 ∧ v13 = .int .i64 (i : Int) ∧ JInv J D ls ∧ J.frm = 3 ∧ J.size = 57 ∧ J.start = 9 ∧ D.l.length ≤ 34 * i ∧ ls.length ≤ i ∧ Apart w w.heap.size (TG w p q D J v12 ls) wr) (fun _ v13 _ => 20 - (intOf v13).toNat)
    case atStart => exact ⟨0, _, _, _, Nat.zero_le _, Nat.zero_le _, rfl, hI, rfl, rfl, rfl, Nat.zero_le _, Nat.zero_le _, L3⟩
    case round =>
      obtain ⟨i, J, D, ls, hi, hi20, rfl, hJ, hf, hz, hs, hDl, hls, L⟩ := hrel
      clear L3 hI KC
      by_cases hlt : (i : Int) < (l.length : Int)
      · by_cases h20 : (i : Int) < 20
        · obtain ⟨bb, off, x, rfl, hx, hxs⟩ := ha.here (i := i) (by omega)
          have X : ∀ (Ts : List (Thg w.heap.size)) w', Apart w w.heap.size Ts w' → w'.cell? ⟨bb, off + i, none⟩ = some x := fun Ts w' L' => L'.cellOf hx
          have hXL := Lib.hid X
          have HXS := Lib.hid hxs
          obtain ⟨ab, cb, rfl, hxb, hxn⟩ := hxs
          have XB : ∀ (Ts : List (Thg w.heap.size)) w', Apart w w.heap.size Ts w' → BytesAt w' ab l[i] := fun Ts w' L' => hxb.below L'.bel (fun x hx hl => by subst hx; exact hxb.lt hl)
          have HXB := Lib.hid XB
          have hx0 := X _ _ L
          clear X XB hx hxb
          generalize l[i] = b at *
          have hJ2 := hJ.app b
          have hap := L.jappend 1 0 rfl rfl (by decide) hJ (by omega) ab b _ cb rfl (HXB.out _ _ L) hxn
          have hlen := appD_len J D b
          obtain ⟨s1, s2, s3⟩ := app_same J b
          rw [hf] at s1
          rw [hz] at s2
          rw [hs] at s3
          generalize J.whyApp b = c at *
          generalize hJb : J.app b = J2 at *
          generalize hDb : J.appD D b = D2 at *
          have HJ2 := Lib.hid hJ2
          have HAP := Lib.hid hap
          clear hap hJ2 hJ hf hz hs hJb hDb
          go_wp2_with fail
          refine HAP.out.mono ?_
          rintro e w4 ⟨rfl, L4⟩
          replace L4 : Apart w w.heap.size (TG w p q D2 J2 u12 ls) w4 := L4
          have hx4 := hXL.out _ _ L4
          clear L hx0 HAP
          go_upto_if 56 with fail
          go_cut [12] (fun v12 wx => ∃ ls' : List (List UInt8), JInv J2 D2 ls' ∧ ls'.length ≤ i + 1 ∧ Apart w w.heap.size (TG w p q D2 J2 v12 ls') wx)
          case first =>
            by_cases hc : c = 0
            · subst hc
              obtain ⟨xs, o1, o2, o3⟩ := L4.allPush 2 rfl
              obtain ⟨av, cv, ev, -, -, -⟩ := owns_shape o1
              subst ev
              have hle4 := L4.le
              have hj2 := HJ2.out
              rw [if_pos rfl] at hj2
              have HJ3 := Lib.hid hj2
              have O3 := Lib.hid o3
              clear hj2 o3 HJ2
              go_wp2_with (first
                | (at_builtin; refine appR 66 22 _ 1 24 Try.underlying66 info22 rfl (by decide) (by decide) rfl _ _ rfl w.heap.size _ xs.length xs rfl (owns_mod o1 (Mod.alloc (fun _ => False) _ _) (fun _ _ => id)) ⟨w4.heap.size, 0, none⟩ 1 1 [.slice ab b.length cb] rfl rfl (cells_new w4 _ 22) (slices_oneCell7 _ _ _) (by omega) (by simp; omega) ?_; intro v7 w7 ho7 hm7 hb7))
              have L7 := O3.out _ v7 w7 _ b HXS.out ho7 hm7 hb7
              go_meet
              exact ⟨_, HJ3.out, by simp; omega, L7⟩
            · have hc' : (c == 0) = false := by simpa using hc
              have hj2 := HJ2.out
              rw [if_neg hc] at hj2
              have HJ3 := Lib.hid hj2
              clear hj2 HJ2
              go_wp2_with fail
              go_meet
              exact ⟨_, HJ3.out, by omega, L4⟩
          case rest =>
            obtain ⟨ls', hJ3, hl3, L5⟩ := hcut
            clear L4 hx4 HJ2 HXS HXB hXL
            by_cases hsy : (i : Int) < (ly.length : Int)
            · obtain ⟨by_, offy, rfl, hcy⟩ := hy.here L5.bel (i := i) (by omega)
              generalize ly[i] = y at *
              cases y
              · go_wp2_with fail
                go_roundw
                case rel => exact ⟨i + 1, J2, D2, ls', by omega, by omega, by go_num, hJ3, s1, s2, s3, by omega, hl3, L5⟩
                case measure => simp [intOf]; omega
              · have HSY := Lib.hid (L5.jsync_ok 1 0 rfl rfl (by decide) hJ3)
                go_wp2_with fail
                refine HSY.out.mono ?_
                rintro e w6 ⟨rfl, L6⟩
                go_wp2_with fail
                go_roundw
                case rel => exact ⟨i + 1, J2, D2.sync, ls', by omega, by omega, by go_num, hJ3.sync, s1, s2, s3, by rw [(sync_now hJ3.fine).2.1]; exact Nat.zero_le _, hl3, L6⟩
                case measure => simp [intOf]; omega
            · go_wp2_with fail
              go_roundw
              case rel => exact ⟨i + 1, J2, D2, ls', by omega, by omega, by go_num, hJ3, s1, s2, s3, by omega, hl3, L5⟩
              case measure => simp [intOf]; omega
        · go_wp2
          go_meet
          exact ⟨J, D, ls, hJ, hf, hz, hs, by omega, by omega, L⟩
      · go_wp2
        go_meet
        exact ⟨J, D, ls, hJ, hf, hz, hs, by omega, by omega, L⟩
  case rest =>
    obtain ⟨J, D, ls, hJ, hf, hz, hs, hDl, hls, L⟩ := hcut
    clear L3 hI
    go_wp2_with fail
    go_loopw [14] (fun v14 wr => ∃ k : Nat, k ≤ 1 + C ∧ v14 = .int .i64 (k : Int) ∧ Apart w w.heap.size (TG w p q D J u12 ls) wr) (fun v14 _ => 1 + C - (intOf v14).toNat)
    case atStart => exact ⟨0, Nat.zero_le _, rfl, L⟩
    case round =>
      clear L
      obtain ⟨k, hk, rfl, L⟩ := hrel
      have HKC := Lib.hid KC
      have HJ := Lib.hid hJ
      have hag := L.jagain 0 rfl hJ (by rw [hz]; decide) (by rw [hs]; decide) (by omega)
      rw [hf, hz, hs] at hag
      have HAG := Lib.hid hag
      clear hag hJ hf hz hs KC
      go_wp2_with fail
      refine (HKC.out _).mono ?_
      rintro e w' ⟨rfl, rfl⟩
      by_cases hlt : (k : Int) < 1 + (C : Int)
      · go_wp2_with fail
        refine HAG.out.mono ?_
        rintro e w3 ⟨q2, v, rfl, L3⟩
        replace L3 : Apart w w.heap.size [DiskT w.heap.size p D, JT w.heap.size q p J, AllT w w.heap.size u12 ls, JT w.heap.size q2 p J, BBT w.heap.size v ls] w3 := L3
        obtain ⟨av, cv, rfl, hrv⟩ := L3.rows 4 rfl
        obtain ⟨aw, cw, rfl, hrw⟩ := L3.allRd 2 rfl
        have hsm := sameall_any w3 av aw ls ls _ _ cv cw rfl rfl (by omega) hrv hrw
        rw [decide_eq_true rfl] at hsm
        have HSM := Lib.hid hsm
        clear hsm hrv hrw HAG L
        go_wp2_with fail
        refine HSM.out.mono ?_
        rintro e w4 ⟨rfl, m4⟩
        have L4 := L3.still m4
        clear L3 m4 HSM
        go_wp2_with fail
        refine (L4.jnext 3 rfl).mono ?_
        rintro e w' ⟨rfl, rfl⟩
        go_wp2_with fail
        refine (L4.jnext 1 rfl).mono ?_
        rintro e w' ⟨rfl, rfl⟩
        have L5 := L4.take 3
        replace L5 : Apart w w.heap.size (TG w p q D J (.slice aw ls.length cw) ls) w4 := L5
        go_wp2
        go_roundw
        case rel => exact ⟨k + 1, by omega, by go_num, L5⟩
        case measure => simp [intOf]; omega
      · clear HAG
        go_wp2_with fail
        refine L.known4.mono ?_
        rintro e w5 ⟨rfl, L5⟩
        have hb := L5.bel
        go_wp2
        go_ret
        exact ⟨rfl, hb⟩

theorem again_all (W : World) {v0 v1 : Value} {l0 : List (List UInt8)} {l1 : List Bool} (o0 : RdBs W v0 l0) (o1 : RdT W v1 l1) {a2 : Int} {P : Prop} (_ : P) : Calls Try.prog 15 #[v0, v1, .int .i64 a2] W fun e W' => e = .returned (.bool true) ∧ Below W.heap.size W W' := by
  obtain ⟨a, cap, rfl, h, -⟩ := o0
  obtain ⟨ay, capy, rfl, hy, -⟩ := o1
  exact again_walk a l0 cap ay l1 capy a2 W h hy
end Go.Proofs.Ytdinnkacilgmmaa
