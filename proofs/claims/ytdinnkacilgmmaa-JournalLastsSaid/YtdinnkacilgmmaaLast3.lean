/- JournalLasts: the walk. -/
import Derived.Test.YtdinnkacilgmmaaLast2
import Derived.Test.YtdinnkacilgmmaaLift6
namespace Go.Proofs.Ytdinnkacilgmmaa
open Go.RowKit

def TL (w0 : World) (p q : Nat) (D : Dsk) (J : Jr) (v : Value) (ls : List (List UInt8)) : List (Thg w0.heap.size) := [DiskT w0.heap.size p D, JT w0.heap.size q p J, AllT w0 w0.heap.size v ls]

/-- a block that is as it was laid -/
def ObT (B k : Nat) (o : Obj) : Thg B := ⟨fun w F => B ≤ k ∧ w.heap[k]? = some o ∧ F = fun j => j = k, fun {w F} h j hj => by obtain ⟨h1, h2, rfl⟩ := h; subst hj; exact ⟨h1, lt_of_block h2⟩,
  fun {G w w' F} h hm hF => by obtain ⟨h1, h2, rfl⟩ := h; exact ⟨h1, hm.obj h2 (hF k rfl), rfl⟩⟩
theorem Apart.laid {w0 w : World} {B : Nat} {Ts : List (Thg B)} (h : Apart w0 B Ts w) (o : Obj) : Apart w0 B (Ts ++ [ObT B w.heap.size o]) (w.alloc o) :=
  h.more (ObT B w.heap.size o) (Mod.alloc _ _ _) ⟨h.le, heap_alloc_new w o, rfl⟩ (fun k hk => by rw [hk]; exact Nat.le_refl _)
theorem Apart.obj {w0 w : World} {B : Nat} {Ts : List (Thg B)} (h : Apart w0 B Ts w) (i : Nat) {k : Nat} {o : Obj} (hi : Ts[i]? = some (ObT B k o)) : w.heap[k]? = some o := by
  obtain ⟨F, -, h2, -⟩ := h.get i hi
  exact h2
theorem Apart.allCap {w0 w : World} {Ts : List (Thg w0.heap.size)} {av : Option Addr} {n cv : Nat} {ls : List (List UInt8)} (h : Apart w0 w0.heap.size Ts w) (i : Nat) (hi : Ts[i]? = some (AllT w0 w0.heap.size (.slice av n cv) ls)) : n ≤ cv := by
  obtain ⟨F, xs, bs, h1, h2, h3, h4, h5, -⟩ := h.get i hi
  obtain ⟨a, cap, e, h6, -, -⟩ := owns_shape h1
  cases e
  exact h6
def opO (o : OpV) (ab : Option Addr) (cb : Nat) (al : Option Addr) (cl : Nat) : Obj := .cells #[.int .i64 o.kind, .int .i64 o.n, .slice ab o.b.length cb, .slice al o.l.length cl] 89
def TM (w0 : World) (p q : Nat) (D : Dsk) (J : Jr) (v : Value) (ls : List (List UInt8)) (k : Nat) (o : Obj) : List (Thg w0.heap.size) := [DiskT w0.heap.size p D, JT w0.heap.size q p J, AllT w0 w0.heap.size v ls, ObT w0.heap.size k o]

set_option maxHeartbeats 4000000 in
set_option maxRecDepth 100000 in
theorem lasts_walk (a : Option Addr) (l : List OpV) (cap : Nat) (w : World) (ha : OpsAt w a l) :
    Calls Try.prog 19 #[.slice a l.length cap] w fun e w' => e = .returned (.bool true) ∧ Below w.heap.size w w' := by
  have L0 : Apart w w.heap.size [] w := Apart.nil (Below.refl _ _) (Nat.le_refl _)
  go_enter Try.func19, Try.ntmps19
  go_wp2_with fail
  refine (L0.newDisk 12 (by decide) (by decide)).mono ?_
  rintro e w1 ⟨p, rfl, L1⟩
  clear L0
  go_wp2_with fail
  refine (L1.jopenNew 0 12 rfl (by decide) (by decide) 0 12 1 (by decide) (by decide) (by decide) (by decide)).mono ?_
  rintro e w2 ⟨q, a2, c2, rfl, L2⟩
  have hI := (new_open 12 0 12 1 (by decide) (by decide) (by decide) (by decide) (by decide) (by decide)).1
  have L3 := L2.allNil
  replace L3 : Apart w w.heap.size (TL w p q (Dsk.of (List.replicate (12 * 256) 0)) ⟨0, 12, 1, 1, false⟩ (.slice none 0 0) []) w2 := L3
  clear L1 L2
  have hL0 : LastI ⟨0, 12, 1, 1, false⟩ (Dsk.of (List.replicate (12 * 256) 0)) [] 0 := by
    have hs : ∀ i, i < 12 → sector (List.replicate (12 * 256) (0 : UInt8)) i = List.replicate 256 0 := fun i hi => by
      unfold sector
      rw [List.drop_replicate, List.take_replicate]
      congr 1
      omega
    refine ⟨rfl, rfl, rfl, by show 1 ≤ 13; decide, hI.wf, ?_, rfl, rfl, hI.stand, hI.clean, ⟨1, rfl, Nat.le_refl _, fun x hx => by cases hx⟩, Nat.le_refl _, fun i hi => ?_⟩
    · show (List.replicate (12 * 256) (0 : UInt8)).length / 256 = 12
      rw [List.length_replicate]
    · show NumS i (sector (List.replicate (12 * 256) (0 : UInt8)) i)
      rw [hs i hi]
      exact numS_zeros i
  clear hI
  go_wp2_with fail
  go_loopw [5, 8, 9, 10] (fun v5 v8 v9 v10 wr => ∃ (i q : Nat) (J : Jr) (D : Dsk) (all : List (List UInt8)) (sure : Nat), i ≤ l.length ∧ i ≤ 60 ∧ v10 = .int .i64 (i : Int) ∧ v5 = .pointer (some ⟨q, 0, none⟩) ∧ v9 = .int .i64 (sure : Int) ∧ LastI J D all sure ∧ D.l.length ≤ 34 * i ∧ Apart w w.heap.size (TL w p q D J v8 all) wr) (fun _ _ _ v10 _ => 60 - (intOf v10).toNat)
  case atStart => exact ⟨0, q, _, _, _, 0, Nat.zero_le _, Nat.zero_le _, rfl, rfl, rfl, hL0, Nat.zero_le _, L3⟩
  case round =>
    clear hL0 L3
    obtain ⟨i, qj, J, D, all, sure, hi, hi60, rfl, rfl, rfl, hI, hDl, L⟩ := hrel
    by_cases hlt : (i : Int) < (l.length : Int)
    · by_cases h60 : (i : Int) < 60
      · obtain ⟨bb, off, rfl, ab', cb', al, cl, q0, q1, q2, q3, r1, r2, r3, r4, r5, r6, r7⟩ := ha.here (Below.refl _ _) (k := i) (by omega)
        have q0' := L.cellOf q0
        have q1' := L.cellOf q1
        have q2' := L.cellOf q2
        have q3' := L.cellOf q3
        clear q0 q1 q2 q3 ha
        generalize l[i] = o at *
        have hal : all.length ≤ 12 := by have := hI.stand.le; have := hI.next; omega
        obtain ⟨av, cv, rfl, -⟩ := L.allRd 2 rfl
        have hcv := L.allCap 2 rfl
        have R1 := Lib.hid r1
        have R3 := Lib.hid r3
        have R6 := Lib.hid r6
        have R7 := Lib.hid r7
        have HI := Lib.hid hI
        clear r1 r3 r6 r7 hI
        go_upto_region 13 with fail
        obtain ⟨W1, hW1⟩ : ∃ W1, W1 = wr.alloc (opO o ab' cb' al cl) := ⟨_, rfl⟩
        rw [show wr.alloc (Obj.cells #[.int .i64 o.kind, .int .i64 o.n, .slice ab' o.b.length cb', .slice al o.l.length cl] 89) = W1 from hW1.symm]
        have L1 := L.laid (opO o ab' cb' al cl)
        rw [← hW1] at L1
        clear hW1 L q0' q1' q2' q3'
        generalize wr.heap.size = k at *
        replace L1 : Apart w w.heap.size (TM w p qj D J (.slice av all.length cv) all k (opO o ab' cb' al cl)) W1 := L1
        have YC : ∀ w' D' J' v' ls', Apart w w.heap.size (TM w p qj D' J' v' ls' k (opO o ab' cb' al cl)) w' → w'.cell? ⟨k, 0, none⟩ = some (.int .i64 o.kind) ∧ w'.cell? ⟨k, 2, none⟩ = some (.slice ab' o.b.length cb') ∧ w'.cell? ⟨k, 3, none⟩ = some (.slice al o.l.length cl) := fun w' D' J' v' ls' h => by
          have hc := fun j => cell_of_row w' k j _ 89 (0, 0) (h.obj 3 rfl)
          exact ⟨hc 0, hc 2, hc 3⟩
        have HYC := Lib.hid YC
        obtain ⟨y0, y2, y3⟩ := YC _ _ _ _ _ L1
        clear YC
        by_cases hk012 : o.kind = 0 ∨ o.kind = 1 ∨ o.kind = 2
        · have hB : ∀ (Ts : List (Thg w.heap.size)) w', Apart w w.heap.size Ts w' → BytesAt w' ab' o.b := fun Ts w' h => R1.out.below h.bel R6.out
          have hap := L1.jappendW 1 0 rfl rfl (by decide) HI.out (by omega) ab' o.b _ cb' rfl (hB _ _ L1) r2
          have hI2 := HI.out.app o.b
          have hlen := appD_len J D o.b
          have hsl : SlB w (.slice ab' o.b.length cb') o.b := ⟨ab', cb', rfl, R1.out, r2⟩
          generalize J.whyApp o.b = c at *
          generalize J.app o.b = J2 at *
          generalize J.appD D o.b = D2 at *
          have HAP := Lib.hid hap
          have HI2 := Lib.hid hI2
          have HSL := Lib.hid hsl
          clear hap hI2 hB hsl HI
          rcases hk012 with hk | hk | hk
          all_goals
            rw [hk] at y0
            go_wp2_with fail
            refine HAP.out.mono ?_
            rintro e w3 ⟨rfl, L3⟩
            replace L3 : Apart w w.heap.size (TM w p qj D2 J2 (.slice av all.length cv) all k (opO o ab' cb' al cl)) w3 := L3
            obtain ⟨z0, z2, z3⟩ := HYC.out _ _ _ _ _ L3
            clear L1 y0 y2 y3 z0 z3 HAP
            by_cases hc : c = 0
            · subst hc
              obtain ⟨xs, o1, o2, o3⟩ := L3.allPush 2 rfl
              have hle3 := L3.le
              have hj2 := HI2.out
              rw [if_pos rfl] at hj2
              have HJ3 := Lib.hid hj2
              have O3 := Lib.hid o3
              have O2 := Lib.hid o2
              have hxl : xs.length ≤ 12 := by omega
              clear hj2 o3 HI2 o2
              go_wp2_with (first
                | (at_builtin; refine appR 66 22 _ 1 24 Try.underlying66 info22 rfl (by decide) (by decide) rfl _ _ rfl w.heap.size (.slice av all.length cv) xs.length xs rfl (owns_mod o1 (Mod.alloc (fun _ => False) _ _) (fun _ _ => id)) ⟨w3.heap.size, 0, none⟩ 1 1 [.slice ab' o.b.length cb'] rfl rfl (cells_new w3 _ 22) (slices_oneCell7 _ _ _) (by omega) (by simp; omega) ?_; intro v7 w7 ho7 hm7 hb7))
              have L7 := O3.out _ v7 w7 _ o.b HSL.out ho7 hm7 hb7
              have L8 := L7.take 3
              replace L8 : Apart w w.heap.size (TL w p qj D2 J2 v7 (all ++ [o.b])) w7 := L8
              clear L7 O3 ho7 hm7 hb7 o1 L3 z2
              go_wp2_with fail
              go_roundw
              case rel => exact ⟨i + 1, qj, J2, D2, _, sure, by omega, by omega, by go_num, rfl, rfl, HJ3.out, by omega, L8⟩
              case measure => simp [intOf]; omega
            · have hc' : (c == 0) = false := by simpa using hc
              have hj2 := HI2.out
              rw [if_neg hc] at hj2
              have HJ3 := Lib.hid hj2
              clear hj2 HI2
              have L5 := L3.take 3
              replace L5 : Apart w w.heap.size (TL w p qj D2 J2 (.slice av all.length cv) all) w3 := L5
              go_wp2_with fail
              go_roundw
              case rel => exact ⟨i + 1, qj, J2, D2, all, sure, by omega, by omega, by go_num, rfl, rfl, HJ3.out, by omega, L5⟩
              case measure => simp [intOf]; omega
        · by_cases hk3 : o.kind = 3
          · rw [hk3] at y0
            have hsy := L1.jsyncW 1 0 rfl rfl (by decide) HI.out (by omega)
            have HSY := Lib.hid hsy
            clear hsy hk012
            go_wp2_with fail
            refine HSY.out.mono ?_
            rintro e w3 ⟨c, J', D', sure', rfl, hI', hs, hle, L3⟩
            have L5 := L3.take 3
            replace L5 : Apart w w.heap.size (TL w p qj D' J' (.slice av all.length cv) all) w3 := L5
            have HS := Lib.hid hs
            clear hs L3 L1 HSY y0 y2 y3
            by_cases hc : c = 0
            · subst hc
              have hs2 := HS.out
              rw [if_pos rfl] at hs2
              subst hs2
              go_wp2_with fail
              go_roundw
              case rel => exact ⟨i + 1, qj, J', D', all, _, by omega, by omega, by go_num, rfl, rfl, hI', by omega, L5⟩
              case measure => simp [intOf]; omega
            · have hc' : (c == 0) = false := by simpa using hc
              have hs2 := HS.out
              rw [if_neg hc] at hs2
              subst hs2
              go_wp2_with fail
              go_roundw
              case rel => exact ⟨i + 1, qj, J', D', all, _, by omega, by omega, by go_num, rfl, rfl, hI', by omega, L5⟩
              case measure => simp [intOf]; omega
          · by_cases hk5 : o.kind = 5
            · rw [hk5] at y0
              have HF := Lib.hid (L1.fail 0 rfl)
              clear hk012 hk3
              go_wp2_with fail
              refine HF.out.mono ?_
              rintro e w3 ⟨rfl, L3⟩
              have L5 := L3.take 3
              replace L5 : Apart w w.heap.size (TL w p qj { D with bad := true } J (.slice av all.length cv) all) w3 := L5
              go_wp2_with fail
              go_roundw
              case rel => exact ⟨i + 1, qj, J, { D with bad := true }, all, sure, by omega, by omega, by go_num, rfl, rfl, HI.out.fail, by show D.l.length ≤ _; omega, L5⟩
              case measure => simp [intOf]; omega
            · by_cases hk7 : o.kind = 7
              · rw [hk7] at y0
                clear hk012 hk3 hk5
                have hcr := L1.crash 0 rfl al o.l _ cl rfl (R3.out.mod (Mod.of_below L1.bel) (fun x hx hne e => by have := R7.out x hx hne; omega)) R7.out (by omega)
                have HCR := Lib.hid hcr
                obtain ⟨i1, i2, i3, i4, i5, i6⟩ := HI.out.crash o.l
                clear hcr
                generalize D.crash o.l = C at *
                go_wp2_with fail
                refine HCR.out.mono ?_
                rintro e w3 ⟨rfl, L3⟩
                replace L3 : Apart w w.heap.size (TM w p qj C J (.slice av all.length cv) all k (opO o ab' cb' al cl)) w3 := L3
                have hop := L3.jopen 0 rfl i1 0 12 1 (by omega) (by decide) (by omega) (by decide) (by decide) (by omega)
                have HOP := Lib.hid hop
                have H5 := Lib.hid i5
                have H6 := Lib.hid i6
                have H4 := Lib.hid i4
                clear hop i1 i2 i3 i4 i5 i6 L1 y0 y2 y3 HCR HI
                generalize Jr.opened 0 12 1 C = J2 at *
                generalize J2.scrub C = D2 at *
                generalize openRecs 0 12 1 C = ls at *
                go_wp2_with fail
                refine HOP.out.mono ?_
                rintro e w4 ⟨q2, v, rfl, L4⟩
                replace L4 : Apart w w.heap.size [DiskT w.heap.size p D2, JT w.heap.size qj p J, AllT w w.heap.size (.slice av all.length cv) all, ObT w.heap.size k (opO o ab' cb' al cl), JT w.heap.size q2 p J2, BBT w.heap.size v ls] w4 := L4
                have hll : ls.length ≤ 12 := by have := H4.out.stand.le; have := H4.out.next; omega
                obtain ⟨av2, cv2, rfl, hrd2⟩ := L4.rows 5 rfl
                obtain ⟨av3, cv3, e3, hrd3⟩ := L4.allRd 2 rfl
                injection e3 with e3 _ e4
                subst e3 e4
                have hah := ahead_any w4 av2 av ls all ls.length all.length cv2 cv rfl rfl (by omega) hcv hrd2 hrd3
                have HAH := Lib.hid hah
                have HR2 := Lib.hid hrd2
                clear hah L3 HOP hrd2 hrd3
                go_wp2_with fail
                refine HAH.out.mono ?_
                rintro e w5 ⟨⟨r, rfl⟩, m5⟩
                have L5 := L4.still m5
                have hrd5 := HR2.out.still m5
                clear L4 HAH HR2
                cases r
                · have hch := L5.chance 0 rfl H4.out H5.out av2 cv2 ls.length rfl (by omega) hrd5
                  have HCH := Lib.hid hch
                  clear hch
                  go_wp2_with fail
                  refine HCH.out.mono ?_
                  rintro e w6 ⟨rfl, m6⟩
                  have L6 := L5.still m6
                  go_wp2_with fail
                  refine L6.known4.mono ?_
                  rintro e w7 ⟨rfl, L7⟩
                  have hb := L7.bel
                  go_wp2
                  go_ret
                  exact ⟨rfl, hb⟩
                · have hsl : ¬ (ls.length : Int) < (sure : Int) := by have := H6.out; omega
                  have L6 := L5.pick [DiskT w.heap.size p D2, JT w.heap.size q2 p J2, BBT w.heap.size (.slice av2 ls.length cv2) ls] (fun i => if i = 0 then 0 else i + 3)
                    (fun i hi => by
                      have : i = 0 ∨ i = 1 ∨ i = 2 := by simp at hi; omega
                      rcases this with h | h | h <;> subst h <;> rfl)
                    (fun i j hi hj hij => by simp at hi hj; split <;> split <;> omega)
                  obtain ⟨xs, o1, o2, hcell, o3⟩ := L6.allFrom 2 rfl
                  have O3 := Lib.hid o3
                  have O2 := Lib.hid o2
                  have hxl : xs.length ≤ 12 := by omega
                  have hle5 := L6.le
                  clear o2 o3 L5 hrd5
                  go_wp2_with (first
                    | (at_builtin; refine appNilRows rfl _ _ rfl w.heap.size rfl xs (.slice av2 ls.length cv2) rfl o1 (by omega) hcell hle5 ?_; intro v7 w7 ho7 hm7 hb7))
                  have L7 := O3.out v7 w7 ho7 hm7 hb7
                  replace L7 : Apart w w.heap.size (TL w p q2 D2 J2 v7 ls) w7 := L7
                  have H5' := H5.out
                  obtain ⟨a9, c9, rfl, -⟩ := L7.allRd 2 rfl
                  go_wp2_with fail
                  go_roundw
                  case rel => exact ⟨i + 1, q2, J2, D2, ls, ls.length, by omega, by omega, by go_num, rfl, rfl, H4.out, by rw [H5']; exact Nat.zero_le _, L7⟩
                  case measure => simp [intOf]; omega
              · have g0 : ¬ o.kind = 0 := fun h => hk012 (.inl h)
                have g1 : ¬ o.kind = 1 := fun h => hk012 (.inr (.inl h))
                have g2 : ¬ o.kind = 2 := fun h => hk012 (.inr (.inr h))
                clear hk012
                have L5 := L1.take 3
                replace L5 : Apart w w.heap.size (TL w p qj D J (.slice av all.length cv) all) W1 := L5
                go_wp2_with fail
                go_roundw
                case rel => exact ⟨i + 1, qj, J, D, all, sure, by omega, by omega, by go_num, rfl, rfl, HI.out, by omega, L5⟩
                case measure => simp [intOf]; omega
      · go_wp2_with fail
        refine L.known4.mono ?_
        rintro e w5 ⟨rfl, L5⟩
        have hb := L5.bel
        go_wp2
        go_ret
        exact ⟨rfl, hb⟩
    · go_wp2_with fail
      refine L.known4.mono ?_
      rintro e w5 ⟨rfl, L5⟩
      have hb := L5.bel
      go_wp2
      go_ret
      exact ⟨rfl, hb⟩

theorem lasts_all (W : World) {v0 : Value} {l0 : List OpV} (o0 : RdO W v0 l0) : Calls Try.prog 19 #[v0] W fun e W' => e = .returned (.bool true) ∧ Below W.heap.size W W' := by
  obtain ⟨a, cap, rfl, h, -⟩ := o0
  exact lasts_walk a l0 cap W h
end Go.Proofs.Ytdinnkacilgmmaa
