/- CrcNoughts: the walk. -/
import Derived.Test.YtdinnkacilgmmaaJoin2
import Derived.Test.YtdinnkacilgmmaaZeros
import Derived.Test.YtdinnkacilgmmaaLift
namespace Go.Proofs.Ytdinnkacilgmmaa
open Go.RowKit

theorem _root_.Go.RowKit.Below.next {B : Nat} {a b c : World} (h : Below B a b) (hB : B ≤ a.heap.size) (k : Below b.heap.size b c) : Below B a c :=
  h.trans (k.mono (Nat.le_trans hB h.size))

theorem join_crc (a r : List UInt8) : shn (8 * r.length) (crc a) ^^^ crc r = crc (a ++ r) := by
  rw [← crc_append, ← more_join]

theorem join_n (a : List UInt8) (n : Nat) : shn (8 * n) (crc a) ^^^ crc (List.replicate n 0) = crc (a ++ List.replicate n 0) := by
  have := join_crc a (List.replicate n 0)
  rwa [List.length_replicate] at this

theorem join_any' (a b : BitVec 32) (N : Nat) (x : Int) (hx : x = (N : Int)) (hN : N ≤ 1099511627776) (w : World) :
    Calls Try.prog 29 #[.int .u32 a.toNat, .int .u32 b.toNat, .int .i64 x] w fun e w' => e = .returned (.tuple #[.int .u32 (shn (8 * N) a ^^^ b).toNat, .int .i64 0]) ∧ Below w.heap.size w w' := by
  subst hx; exact join_any a b N hN w

set_option maxRecDepth 100000 in
set_option maxHeartbeats 4000000 in
theorem noughts_walk (a : Option Addr) (l : List UInt8) (cap : Nat) (n0 m0 : Int) (w : World) (hm : l.length ≤ 140737488351232) (hao : a = none → cap = 0)
    (hb : BytesAt w a l) :
    Calls Try.prog 7 #[.slice a l.length cap, .int .i64 n0, .int .i64 m0] w fun e w' => e = .returned (.bool true) ∧ Below w.heap.size w w' := by
  have hn1 : 0 ≤ n0 % 500 := Int.emod_nonneg _ (by omega)
  have hn2 : n0 % 500 < 500 := Int.emod_lt_of_pos _ (by omega)
  have hm1 : 0 ≤ m0 % 500 := Int.emod_nonneg _ (by omega)
  have hm2 : m0 % 500 < 500 := Int.emod_lt_of_pos _ (by omega)
  obtain ⟨n, hn⟩ : ∃ n : Nat, (n : Int) = n0 % 500 := ⟨(n0 % 500).toNat, by omega⟩
  obtain ⟨m, hm'⟩ : ∃ m : Nat, (m : Int) = m0 % 500 := ⟨(m0 % 500).toNat, by omega⟩
  have hnl : n < 500 := by omega
  have hml : m < 500 := by omega
  have HN := Lib.hid hn.symm
  have HM := Lib.hid hm'.symm
  clear hn hm' hn1 hn2 hm1 hm2
  go_enter Try.func7, Try.ntmps7
  go_wp2_with fail
  refine (count_any _ _ _ (by decide) (by decide)).mono ?_
  rintro e w' ⟨rfl, rfl⟩
  rw [HN.out]
  go_wp2_with fail
  refine (count_any _ _ _ (by decide) (by decide)).mono ?_
  rintro e w' ⟨rfl, rfl⟩
  rw [HM.out]
  go_wp2_with (first
    | (at_builtin; refine appB rfl _ _ rfl w.heap.size (.slice none 0 0) [] rfl (OwnB.nil _ _) _ _ _ l rfl rfl hao hb (by simp; omega) (Nat.le_refl _) ?_; intro v1 w1 hown1 hmod1 _; rw [List.nil_append] at hown1; have hbel1 := hmod1.below (B := w.heap.size) (by intro k hk; simp [Value.ownBlock] at hk) (Nat.le_refl _); clear hmod1)
    | (at_builtin; refine appZ rfl _ _ rfl w.heap.size v1 l rfl hown1 (n + m) rfl (by omega) hbel1.size ?_; intro v2 w2 hown2 hmod2; have hbel2 := hbel1.trans (hmod2.below (fun j hj => (World.ownsRow.lt hown1 j hj.symm).1) hbel1.size); clear hmod2))
  refine (sum_any a l cap _ (by omega) (hb.below hbel2 (fun x e hl => by subst e; exact hb.lt hl))).mono ?_
  rintro e w' ⟨rfl, rfl⟩
  have kn := fun w => run_make_bytes w n (by omega)
  have km := fun w => run_make_bytes w m (by omega)
  have kk := fun w => run_make_bytes w (n + m) (by omega)
  rw [Int.natCast_add] at kk
  go_wp2_with fail
  refine (sum_n _ (List.replicate n 0) n n _ (by simp) (by simp; omega) (bytesAt_zeros' (by simp))).mono ?_
  rintro e w' ⟨rfl, rfl⟩
  go_wp2_with fail
  refine (join_any' _ _ n _ rfl (by omega) _).mono ?_
  rintro e w3 ⟨rfl, hb3⟩
  rw [join_n]
  go_wp2_with fail
  refine (sum_n _ (List.replicate m 0) m m _ (by simp) (by simp; omega) (bytesAt_zeros' (by simp))).mono ?_
  rintro e w' ⟨rfl, rfl⟩
  go_wp2_with fail
  refine (join_any' _ _ m _ rfl (by omega) _).mono ?_
  rintro e w4 ⟨rfl, hb4⟩
  rw [join_n]
  go_wp2_with fail
  refine (sum_n _ (List.replicate (n + m) 0) (n + m) (n + m) _ (by simp) (by simp; omega) (bytesAt_zeros' (by simp))).mono ?_
  rintro e w' ⟨rfl, rfl⟩
  go_wp2_with fail
  refine (join_any' _ _ (n + m) _ (by simp) (by omega) _).mono ?_
  rintro e w5 ⟨rfl, hb5⟩
  rw [join_n]
  have hbel : Below w.heap.size w w5 := by
    have h2 : Below w.heap.size w (w2.alloc (Obj.cells (zerosV n) 5)) := hbel2.alloc hbel2.size _
    have h3 : Below w.heap.size w w3 := h2.next (Nat.le_refl _) hb3
    have h4 : Below w.heap.size w w4 := (h3.alloc h3.size _).next (Nat.le_refl _) hb4
    exact (h4.alloc h4.size _).next (Nat.le_refl _) hb5
  have hown5 : OwnB w5 w.heap.size v2 (l ++ List.replicate (n + m) 0) := by
    have h2 := hown2.fresh (w' := w2.alloc (Obj.cells (zerosV n) 5)) ((Below.refl _ _).alloc (Nat.le_refl _) _)
    have h4 := ((h2.fresh hb3).fresh (w' := w3.alloc (Obj.cells (zerosV m) 5)) ((Below.refl _ _).alloc (Nat.le_refl _) _)).fresh hb4
    exact (h4.fresh (w' := w4.alloc (Obj.cells (zerosV (n + m)) 5)) ((Below.refl _ _).alloc (Nat.le_refl _) _)).fresh hb5
  clear hown2 hb3 hb4 hb5 hbel2 hown1 hbel1
  obtain ⟨ad, cd, rfl, hcl, hcm, hbd⟩ := hown5.shape
  go_wp2_with fail
  refine (sum_n ad (l ++ List.replicate (n + m) 0) (l.length + (n + m)) cd _ (by simp) (by simp; omega) hbd).mono ?_
  rintro e w' ⟨rfl, rfl⟩
  go_wp2_with fail
  refine (known_any _).mono ?_
  rintro e w6 ⟨rfl, hb6⟩
  go_wp2_with fail
  go_ret
  exact ⟨rfl, hbel.next (Nat.le_refl _) hb6⟩

theorem noughts_all (W : World) {v0 : Value} {l0 : List UInt8} (o0 : RdB W v0 l0) {a1 : Int} (_w1 : (Lit.int .i64 a1).wf = true) {a2 : Int} (_w2 : (Lit.int .i64 a2).wf = true) :
    Calls Try.prog 7 #[v0, .int .i64 a1, .int .i64 a2] W fun e w' => e = .returned (.bool true) ∧ Below W.heap.size W w' := by
  obtain ⟨a0, c0, rfl, b0, n0, m0, k0⟩ := o0
  exact noughts_walk a0 l0 c0 a1 a2 W m0 n0 b0
end Go.Proofs.Ytdinnkacilgmmaa
