/- JournalRooms: the walk. -/
import Derived.Test.YtdinnkacilgmmaaJLaw0
import Derived.Test.YtdinnkacilgmmaaLift5
namespace Go.Proofs.Ytdinnkacilgmmaa
open Go.RowKit

theorem RdBB.below {w0 w : World} {a : Option Addr} {ls : List (List UInt8)} (h : RdBB w0 a ls) (hb : Below w0.heap.size w0 w) : RdBB w a ls := by
  obtain ⟨xs, h1, h2, h3⟩ := h
  refine ⟨xs, h1, fun hne => ?_, fun i hi hi2 => ?_⟩
  · obtain ⟨b, off, e, hc⟩ := h2 hne
    exact ⟨b, off, e, fun j hj => (hb.cell (p := ⟨b, off + j, none⟩) (World.block_lt_of_cell? _ _ (hc j hj))).trans (hc j hj)⟩
  · obtain ⟨a', cap, e, k1, k2⟩ := h3 i hi hi2
    exact ⟨a', cap, e, k1.below hb (fun x hx hl => by subst hx; exact k1.lt hl), k2⟩

/-- Room, as a number -/
def Jr.rm (J : Jr) : Nat := if J.next = J.start + J.size then 0 else min ((J.start + J.size - J.next) * 242 - 4) 8192
theorem JInv.rm {J : Jr} {D : Dsk} {ls : List (List UInt8)} (h : JInv J D ls) : J.room = (J.rm : Int) ∧ J.rm ≤ 8192 ∧ (∀ b : List UInt8, J.whyApp b = 0 ↔ b.length ≤ J.rm ∧ (0 < J.rm ∨ J.next < J.start + J.size)) ∧
    (J.rm < 8192 → ∀ b : List UInt8, b.length = J.rm + 1 → J.whyApp b = 4) ∧ (J.rm = 0 → J.next = J.start + J.size) := by
  have h3 := h.s3
  have hl := h.live
  have hr : J.room = (J.rm : Int) := by
    unfold Jr.room Jr.rm
    rw [hl, if_neg (by decide)]
    by_cases e : J.next = J.start + J.size
    · rw [if_pos e, e]; omega
    · rw [if_neg e]; omega
  have hw : ∀ b : List UInt8, J.whyApp b = if 8192 < b.length then 3 else if J.start + J.size < J.next + (b.length + 245) / 242 then 4 else 0 := fun b => by
    unfold Jr.whyApp apN
    rw [hl, if_neg (by decide)]
  refine ⟨hr, ?_, fun b => ?_, fun hlt b hb => ?_, fun hz => ?_⟩
  · unfold Jr.rm; split <;> omega
  · rw [hw]
    unfold Jr.rm
    by_cases e : J.next = J.start + J.size
    · rw [if_pos e]
      by_cases h8 : 8192 < b.length
      · rw [if_pos h8]; exact ⟨fun h => (by cases h), fun h => by omega⟩
      · rw [if_neg h8, if_pos (by omega)]; exact ⟨fun h => (by cases h), fun h => by omega⟩
    · rw [if_neg e]
      by_cases h8 : 8192 < b.length
      · rw [if_pos h8]; exact ⟨fun h => (by cases h), fun h => by omega⟩
      · rw [if_neg h8]
        by_cases h9 : J.start + J.size < J.next + (b.length + 245) / 242
        · rw [if_pos h9]; exact ⟨fun h => (by cases h), fun h => by omega⟩
        · rw [if_neg h9]; exact ⟨fun _ => by omega, fun _ => rfl⟩
  · rw [hw]
    unfold Jr.rm at hlt hb
    by_cases e : J.next = J.start + J.size
    · rw [if_pos e] at hb
      rw [if_neg (by omega), if_pos (by omega)]
    · rw [if_neg e] at hb hlt
      rw [if_neg (by omega), if_pos (by omega)]
  · unfold Jr.rm at hz
    split at hz
    · assumption
    · omega

def TR (B p q : Nat) (D : Dsk) (J : Jr) : List (Thg B) := [DiskT B p D, JT B q p J]

set_option maxHeartbeats 4000000 in
set_option maxRecDepth 100000 in
theorem rooms_walk (s : Int) (a : Option Addr) (l : List (List UInt8)) (cap : Nat) (w : World) (ha : RdBB w a l) :
    Calls Try.prog 16 #[.int .i64 s, .slice a l.length cap] w fun e w' => e = .returned (.bool true) ∧ Below w.heap.size w w' := by
  have L0 : Apart w w.heap.size [] w := Apart.nil (Below.refl _ _) (Nat.le_refl _)
  go_enter Try.func16, Try.ntmps16
  go_wp2_with fail
  refine (count_any _ _ _ (by decide) (by decide)).mono ?_
  rintro e w' ⟨rfl, rfl⟩
  obtain ⟨S, hS⟩ : ∃ S : Nat, (S : Int) = 2 + s % 40 := ⟨(2 + s % 40).toNat, by omega⟩
  have hS2 : 2 ≤ S := by omega
  have hS3 : S ≤ 41 := by omega
  have HS := Lib.hid hS
  have hs40 : s % 40 = (S : Int) - 2 := by omega
  rw [hs40]
  clear hS hs40
  have hS4 : (2 : Int) + ((S : Int) - 2) = (S : Int) := by omega
  go_wp2_with fail
  clear hS4
  refine (L0.newDisk S (by omega) (by omega)).mono ?_
  rintro e w1 ⟨p, rfl, L1⟩
  clear L0
  go_wp2_with fail
  refine (L1.jopenNew 0 S rfl (by omega) (by omega) 0 S 1 hS2 (by omega) (by decide) (by decide)).mono ?_
  rintro e w2 ⟨q, a2, c2, rfl, L2⟩
  have hI := (new_open S 0 S 1 (by omega) (by omega) hS2 (by omega) (by decide) (by decide)).1
  replace L2 : Apart w w.heap.size (TR w.heap.size p q (Dsk.of (List.replicate (S * 256) 0)) ⟨0, S, 1, 1, false⟩) w2 := L2
  clear L1
  go_upto_block 0 with fail
  go_cut [] (fun wx => ∃ (J : Jr) (D : Dsk) (ls : List (List UInt8)), JInv J D ls ∧ D.l.length ≤ 1000 ∧ Apart w w.heap.size (TR w.heap.size p q D J) wx)
  case first =>
    go_wp2_with fail
    go_loopw [10] (fun v10 wr => ∃ (i : Nat) (J : Jr) (D : Dsk) (ls : List (List UInt8)), i ≤ l.length ∧ i ≤ 20 ∧ v10 = .int .i64 (i : Int) ∧ JInv J D ls ∧ J.start = 1 ∧ J.size = S ∧ D.l.length ≤ 34 * i ∧ Apart w w.heap.size (TR w.heap.size p q D J) wr) (fun v10 _ => 20 - (intOf v10).toNat)
    case atStart => exact ⟨0, _, _, _, Nat.zero_le _, Nat.zero_le _, rfl, hI, rfl, rfl, Nat.zero_le _, L2⟩
    case round =>
      obtain ⟨i, J, D, ls, hi, hi20, rfl, hJ, hst, hsz, hDl, L⟩ := hrel
      clear L2 hI
      by_cases hlt : (i : Int) < (l.length : Int)
      · by_cases h20 : (i : Int) < 20
        · obtain ⟨r1, r2, r3, r4, r5⟩ := hJ.rm
          have hroom := L.jroom 1 rfl hJ
          rw [r1] at hroom
          have hmid := ha.here (i := i) (by omega)
          obtain ⟨bb, off, x, rfl, hx, ab, cb, rfl, hxb, hxn⟩ := hmid
          have X : ∀ (Ts : List (Thg w.heap.size)) w', Apart w w.heap.size Ts w' → w'.cell? ⟨bb, off + i, none⟩ = some (.slice ab l[i].length cb) ∧ BytesAt w' ab l[i] := fun Ts w' L' =>
            ⟨(L'.bel.cell (p := ⟨bb, off + i, none⟩) (World.block_lt_of_cell? _ _ hx)).trans hx, hxb.below L'.bel (fun x hx hl => by subst hx; exact hxb.lt hl)⟩
          have hXL := Lib.hid X
          have r3' := r3 l[i]
          clear X hx hxb
          generalize l[i] = b at *
          generalize hm : J.rm = m at *
          have hm1 : (0 : Int) ≤ (m : Int) := by omega
          have hm2 : (m : Int) ≤ 8192 := by omega
          have R3 := Lib.hid r3'
          have R5 := Lib.hid r5
          clear r3 r4 r3' r5 r1 hm
          go_wp2_with fail
          refine hroom.mono ?_
          rintro e w3 ⟨rfl, L3⟩
          clear hroom
          have hN := Lib.hid (L3.jnext 1 rfl)
          have hst2 : (J.start : Int) = 1 := by omega
          have hsz2 : (J.size : Int) = (S : Int) := by omega
          obtain ⟨hx3, hb3⟩ := hXL.out _ _ L3
          go_upto_region 14 with fail
          go_cut [11, 12] (fun v11 v12 wx => v11 = .int .i64 (m : Int) ∧ v12 = .bool (decide (J.whyApp b = 0)) ∧ wx = w3)
          case first =>
            by_cases hbm : (b.length : Int) ≤ (m : Int)
            · by_cases hm0 : (0 : Int) < (m : Int)
              · go_wp2_with fail
                go_meet
                exact ⟨rfl, by rw [decide_eq_true (R3.out.2 ⟨by omega, .inl (by omega)⟩)], rfl⟩
              · have hnx : (J.next : Int) = (S : Int) + 1 := by have := R5.out (by omega); omega
                go_wp2_with (go_at_call 57; refine hN.out.mono ?_; rintro e w' ⟨rfl, rfl⟩)
                go_meet
                refine ⟨by first | rfl | (congr 1; omega), ?_, rfl⟩
                rw [decide_eq_false (fun h => by have := (R3.out.1 h).2; omega)]
            · go_wp2_with fail
              go_meet
              refine ⟨rfl, ?_, rfl⟩
              rw [decide_eq_false (fun h => by have := (R3.out.1 h).1; omega)]
          case rest =>
            obtain ⟨rfl, rfl, rfl⟩ := hcut
            have hap := L3.jappend 1 0 rfl rfl (by decide) hJ (by omega) ab b _ cb rfl hb3 hxn
            have hJ2 := hJ.app b
            have hlen := appD_len J D b
            have hJs : (J.app b).start = 1 ∧ (J.app b).size = S := by
              unfold Jr.app
              split
              · exact ⟨hst, hsz⟩
              · exact ⟨hst, hsz⟩
            generalize J.whyApp b = c at *
            have HAP := Lib.hid hap
            clear hap hN R3 R5 L L3
            by_cases hc : c = 0
            · subst hc
              go_wp2_with fail
              refine HAP.out.mono ?_
              rintro e w4 ⟨rfl, L4⟩
              replace L4 : Apart w w.heap.size (TR w.heap.size p q (J.appD D b) (J.app b)) w4 := L4
              go_wp2_with fail
              go_roundw
              case rel => exact ⟨i + 1, J.app b, J.appD D b, _, by omega, by omega, by go_num, hJ2, hJs.1, hJs.2, by omega, L4⟩
              case measure => simp [intOf]; omega
            · have hc' : (c == 0) = false := by simpa using hc
              go_wp2_with fail
              refine HAP.out.mono ?_
              rintro e w4 ⟨rfl, L4⟩
              replace L4 : Apart w w.heap.size (TR w.heap.size p q (J.appD D b) (J.app b)) w4 := L4
              go_wp2_with fail
              go_roundw
              case rel => exact ⟨i + 1, J.app b, J.appD D b, _, by omega, by omega, by go_num, hJ2, hJs.1, hJs.2, by omega, L4⟩
              case measure => simp [intOf]; omega
        · go_wp2
          go_meet
          exact ⟨J, D, ls, hJ, by omega, L⟩
      · go_wp2
        go_meet
        exact ⟨J, D, ls, hJ, by omega, L⟩
  case rest =>
    obtain ⟨J, D, ls, hJ, hDl, L⟩ := hcut
    clear L2 hI
    obtain ⟨r1, r2, r3, r4, r5⟩ := hJ.rm
    have hroom := L.jroom 1 rfl hJ
    rw [r1] at hroom
    generalize hm : J.rm = m at *
    have hm1 : (0 : Int) ≤ (m : Int) := by omega
    have hm2 : (m : Int) ≤ 8192 := by omega
    have R3 := Lib.hid r3
    have R4 := Lib.hid r4
    have R5 := Lib.hid r5
    clear r3 r4 r5 r1 hm
    go_wp2_with fail
    refine hroom.mono ?_
    rintro e w3 ⟨rfl, L3⟩
    clear hroom L
    go_upto_region 18 with fail
    go_cut [97] (fun v97 wx => v97 = .bool false ∧ Apart w w.heap.size (TR w.heap.size p q D J) wx)
    case first =>
      by_cases h8 : (m : Int) < 8192
      · have km : (Instr.makeSlice 22 (.int .i64 ((m : Int) + 1)) (.int .i64 ((m : Int) + 1))).run Try.prog w3 = .ok (.slice (some ⟨w3.heap.size, 0, none⟩) (m + 1) (m + 1)) (w3.alloc (.cells (zerosV (m + 1)) 5)) := by
          have := run_make_bytes w3 (m + 1) (by omega)
          push_cast at this
          exact this
        have h4 := R4.out (by omega) (List.replicate (m + 1) 0) (by rw [List.length_replicate])
        have e1 : J.app (List.replicate (m + 1) 0) = J := by unfold Jr.app; rw [h4]; rfl
        have e2 : J.appD D (List.replicate (m + 1) 0) = D := by unfold Jr.appD; rw [h4]; rfl
        have hap := (L3.alloc (.cells (zerosV (m + 1)) 5)).jappend 1 0 rfl rfl (by decide) hJ (by omega) (some ⟨w3.heap.size, 0, none⟩) (List.replicate (m + 1) 0) (m + 1) (m + 1) (by rw [List.length_replicate]) (bytesAt_zeros' rfl) (fun e => by cases e)
        rw [h4, e1, e2] at hap
        have HAP := Lib.hid hap
        clear hap h4 e1 e2
        go_wp2_with fail
        refine HAP.out.mono ?_
        rintro e w4 ⟨rfl, L4⟩
        go_wp2_with fail
        go_meet
        exact ⟨rfl, L4⟩
      · go_wp2_with fail
        go_meet
        exact ⟨rfl, L3⟩
    case rest =>
      obtain ⟨rfl, L4⟩ := hcut
      clear L3
      by_cases h0 : (m : Int) = 0
      · go_wp2_with fail
        refine L4.known4.mono ?_
        rintro e w5 ⟨rfl, L5⟩
        have hb := L5.bel
        go_wp2
        go_ret
        exact ⟨rfl, hb⟩
      · have km : (Instr.makeSlice 22 (.int .i64 (m : Int)) (.int .i64 (m : Int))).run Try.prog wc = .ok (.slice (some ⟨wc.heap.size, 0, none⟩) m m) (wc.alloc (.cells (zerosV m) 5)) := run_make_bytes wc m (by omega)
        have h4 := (R3.out (List.replicate m 0)).2 ⟨by rw [List.length_replicate]; omega, .inl (by omega)⟩
        have hap := (L4.alloc (.cells (zerosV m) 5)).jappend 1 0 rfl rfl (by decide) hJ (by omega) (some ⟨wc.heap.size, 0, none⟩) (List.replicate m 0) m m (by rw [List.length_replicate]) (bytesAt_zeros' rfl) (fun e => by cases e)
        rw [h4] at hap
        have HAP := Lib.hid hap
        clear hap h4
        go_wp2_with fail
        refine HAP.out.mono ?_
        rintro e w4 ⟨rfl, L5⟩
        go_wp2_with fail
        refine L5.known4.mono ?_
        rintro e w5 ⟨rfl, L6⟩
        have hb := L6.bel
        go_wp2
        go_ret
        exact ⟨rfl, hb⟩

theorem rooms_all (W : World) {a0 : Int} {P : Prop} (_ : P) {v1 : Value} {l1 : List (List UInt8)} (o1 : RdBs W v1 l1) : Calls Try.prog 16 #[.int .i64 a0, v1] W fun e W' => e = .returned (.bool true) ∧ Below W.heap.size W W' := by
  obtain ⟨a, cap, rfl, h, -⟩ := o1
  exact rooms_walk a0 a l1 cap W h
end Go.Proofs.Ytdinnkacilgmmaa
