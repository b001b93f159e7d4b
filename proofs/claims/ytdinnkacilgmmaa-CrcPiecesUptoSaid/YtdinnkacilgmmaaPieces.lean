/- CrcPieces: the walk, for slices of a bounded length. -/
import Derived.Test.YtdinnkacilgmmaaNoughts
import Derived.Deep.RegionHeld3
namespace Go.Proofs.Ytdinnkacilgmmaa
open Go.RowKit

theorem more_any' (s : BitVec 32) (a : Option Addr) (l : List UInt8) (n cap : Nat) (w : World) (hn : l.length = n) (hm : l.length ≤ 281474976710656) (hb : BytesAt w a l) :
    Calls Try.prog 30 #[.int .u32 s.toNat, .slice a n cap] w fun e w' => e = .returned (.int .u32 (more s l).toNat) ∧ w = w' := by
  subst hn; exact more_any s a l cap w hm hb

theorem join_zero (a : BitVec 32) (w : World) :
    Calls Try.prog 29 #[.int .u32 a.toNat, .int .u32 0, .int .i64 0] w fun e w' => e = .returned (.tuple #[.int .u32 a.toNat, .int .i64 0]) ∧ Below w.heap.size w w' := by
  have h := join_any' a 0 0 0 rfl (by decide) w
  have e : shn (8 * 0) a ^^^ 0 = a := by simp [shn]
  rw [e] at h
  exact h

theorem crc_more (a r : List UInt8) : more (crc a) r = crc (a ++ r) := crc_append a r
theorem more_nil (a : BitVec 32) : more a [] = a := by simp [more, reg]

set_option maxRecDepth 100000 in
set_option maxHeartbeats 4000000 in
theorem pieces_walk (a b : Option Addr) (l r : List UInt8) (c d : Nat) (w : World) (hl : l.length ≤ 1048576) (hr : r.length ≤ 1048576) (hao : a = none → c = 0) (hbo : b = none → d = 0)
    (ha : BytesAt w a l) (hb : BytesAt w b r) :
    Calls Try.prog 6 #[.slice a l.length c, .slice b r.length d] w fun e w' => e = .returned (.bool true) ∧ Below w.heap.size w w' := by
  go_enter Try.func6, Try.ntmps6
  go_wp2_with (first
    | (at_builtin; refine appB rfl _ _ rfl w.heap.size (.slice none 0 0) [] rfl (OwnB.nil _ _) _ _ _ l rfl rfl hao ha (by simp; omega) (Nat.le_refl _) ?_; intro v1 w1 hown1 hmod1 _; rw [List.nil_append] at hown1; have hbel1 := hmod1.below (B := w.heap.size) (by intro k hk; simp [Value.ownBlock] at hk) (Nat.le_refl _); clear hmod1)
    | (at_builtin; refine appB rfl _ _ rfl w.heap.size v1 l rfl hown1 _ _ _ r rfl rfl hbo (hb.below hbel1 (fun x e hl => by subst e; exact hb.lt hl)) (by omega) hbel1.size ?_; intro v2 w2 hown2 hmod2 _; have hbel2 := hbel1.trans (hmod2.below (fun j hj => (World.ownsRow.lt hown1 j hj.symm).1) hbel1.size); clear hmod2 hown1 hbel1))
  obtain ⟨ad, cd, rfl, hcl, hcm, hbd⟩ := hown2.shape
  have A2 : BytesAt w2 a l := ha.below hbel2 (fun x e hl => by subst e; exact ha.lt hl)
  have B2 : BytesAt w2 b r := hb.below hbel2 (fun x e hl => by subst e; exact hb.lt hl)
  have hlen := Lib.hid (show (l ++ r).length = l.length + r.length from List.length_append)
  generalize hN : (l ++ r).length = N at hown2 hcl hlen ⊢
  have HN := Lib.hid hN
  clear hN
  go_wp2_with fail
  refine (sum_n ad (l ++ r) N cd _ HN.out (by rw [HN.out, hlen.out]; omega) hbd).mono ?_
  rintro e w' ⟨rfl, rfl⟩
  go_wp2_with fail
  refine (sum_any a l c _ (by omega) A2).mono ?_
  rintro e w' ⟨rfl, rfl⟩
  go_wp2_with fail
  refine (sum_any b r d _ (by omega) B2).mono ?_
  rintro e w' ⟨rfl, rfl⟩
  go_wp2_with fail
  refine (join_any' _ _ r.length _ rfl (by omega) _).mono ?_
  rintro e w3 ⟨rfl, hb3⟩
  rw [join_crc]
  have A3 := A2.fresh hb3
  go_wp2_with fail
  refine (sum_any a l c _ (by omega) A3).mono ?_
  rintro e w' ⟨rfl, rfl⟩
  go_wp2_with fail
  refine (join_zero _ _).mono ?_
  rintro e w4 ⟨rfl, hb4⟩
  have A4 := A3.fresh hb4
  have B4 := (B2.fresh hb3).fresh hb4
  have hbel := (hbel2.next (Nat.le_refl _) hb3).next (Nat.le_refl _) hb4
  go_wp2_with fail
  refine (sum_any a l c _ (by omega) A4).mono ?_
  rintro e w' ⟨rfl, rfl⟩
  go_wp2_with fail
  refine (more_any (crc l) b r d _ (by omega) B4).mono ?_
  rintro e w' ⟨rfl, rfl⟩
  rw [crc_more]
  go_wp2_with fail
  refine (more_any' (crc (l ++ r)) none [] 0 0 _ rfl (by decide) (BytesAt.nil _ _)).mono ?_
  rintro e w' ⟨rfl, rfl⟩
  rw [more_nil]
  go_wp2_with fail
  refine (sum_any a l c _ (by omega) A4).mono ?_
  rintro e w' ⟨rfl, rfl⟩
  go_wp2_with fail
  refine (known_any _).mono ?_
  rintro e w6 ⟨rfl, hb6⟩
  go_wp2_with fail
  go_ret
  exact ⟨rfl, hbel.next (Nat.le_refl _) hb6⟩

theorem pieces_all (W : World) {v0 v1 : Value} {l0 l1 : List UInt8} (o0 : RdB W v0 l0) (o1 : RdB W v1 l1) (h0 : l0.length ≤ 1048576) (h1 : l1.length ≤ 1048576) :
    Calls Try.prog 6 #[v0, v1] W fun e w' => e = .returned (.bool true) ∧ Below W.heap.size W w' := by
  obtain ⟨a0, c0, rfl, b0, n0, m0, k0⟩ := o0
  obtain ⟨a1, c1, rfl, b1, n1, m1, k1⟩ := o1
  exact pieces_walk a0 a1 l0 l1 c0 c1 W h0 h1 n0 n1 b0 b1
end Go.Proofs.Ytdinnkacilgmmaa
