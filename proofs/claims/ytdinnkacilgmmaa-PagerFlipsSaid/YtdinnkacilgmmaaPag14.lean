/- The pager's laws: as, Same, several; Flip on nothing. -/
import Derived.Test.YtdinnkacilgmmaaPag13
import Derived.Deep.QuietTactic
import Derived.BigQuiet
namespace Go.Proofs.Ytdinnkacilgmmaa
open Go.RowKit

theorem results_108 {fn : Func} {p : Tmp} {b : Nat} {v : Value} (h : fn.results = #[.cell p 108]) (tmps : Array Value) (w : World) (hp : tmps.getD p undef = .pointer (some ⟨b, 0, none⟩)) (hc : RtCell w b v) :
    (results fn tmps).run Try.prog w = .ok v w := by
  obtain ⟨x0, x1, x2, x3, rfl, h0, h1, h2, h3⟩ := hc
  simp only [results, h]
  have hp' : tmps[p]?.getD undef = .pointer (some ⟨b, 0, none⟩) := by simpa using hp
  simp [hp', asAddr, go_sem, h0, h1, h2, h3]

set_option maxRecDepth 100000 in
theorem as_any {w : World} (R : Rt) (a : Option Addr) (n c : Nat) : Calls Try.prog 74 #[rootV R (.slice a n c)] w fun e w' => e = .returned (rootV R (.slice a n c)) ∧ Mod (fun _ => False) w w' := by
  unfold rootV
  go_enter Try.func74, Try.ntmps74
  go_wp2
  exact bodyPost_ret (results_108 rfl _ _ rfl (RtCell.of (heap_alloc2_new _ _ _))) rfl ⟨rfl, (Mod.alloc _ _ _).trans' (Mod.alloc _ _ _)⟩

def Rt.same (R S : Rt) : Bool := decide (R.gen = S.gen) && decide (R.page = S.page) && decide (R.next = S.next) && decide (R.mt = S.mt)
theorem Rt.same_self (R : Rt) : R.same R = true := by simp [Rt.same]
theorem Rt.same_eq {R S : Rt} (h : R.same S = true) : R = S := by
  simp only [Rt.same, Bool.and_eq_true, decide_eq_true_eq] at h
  obtain ⟨⟨⟨h1, h2⟩, h3⟩, h4⟩ := h
  cases R; cases S
  simp only at h1 h2 h3 h4
  subst h1 h2 h3 h4
  rfl

set_option maxHeartbeats 1000000 in
set_option maxRecDepth 100000 in
theorem same_any {w : World} (R S : Rt) (a : Option Addr) (n c : Nat) (b : Option Addr) (m d : Nat) (hn : R.mt.length = n) (hm : S.mt.length = m) (ha : BytesAt w a R.mt) (hb : BytesAt w b S.mt) :
    Calls Try.prog 73 #[rootV R (.slice a n c), rootV S (.slice b m d)] w fun e w' => e = .returned (.bool (R.same S)) ∧ Mod (fun _ => False) w w' := by
  subst hn hm
  obtain ⟨o, ho⟩ : ∃ o, o = R.same S := ⟨_, rfl⟩
  rw [← ho]
  unfold Rt.same at ho
  unfold rootV
  obtain ⟨g1, p1, n1, m1⟩ := R
  obtain ⟨g2, p2, n2, m2⟩ := S
  dsimp only at *
  have HO := Lib.hid ho
  clear ho
  have mm : ∀ A1 A2, Mod (fun _ => False) w ((w.alloc A1).alloc A2) := fun A1 A2 => (Mod.alloc _ _ _).trans' (Mod.alloc _ _ _)
  have SA : ∀ A1 A2, (convert 22 9 (.slice a m1.length c)).run Try.prog ((w.alloc A1).alloc A2) = .ok (.string ⟨m1.toArray⟩) ((w.alloc A1).alloc A2) := fun A1 A2 => run_str (ha.mod (mm A1 A2) (fun _ _ _ => id)) _ c rfl
  have SB : ∀ A1 A2, (convert 22 9 (.slice b m2.length d)).run Try.prog ((w.alloc A1).alloc A2) = .ok (.string ⟨m2.toArray⟩) ((w.alloc A1).alloc A2) := fun A1 A2 => run_str (hb.mod (mm A1 A2) (fun _ _ _ => id)) _ d rfl
  have SA' := SA (.cells #[.int .i64 (g1 : Int), .int .i64 p1, .int .i64 (n1 : Int), .slice a m1.length c] 108) (.cells #[.int .i64 (g2 : Int), .int .i64 p2, .int .i64 (n2 : Int), .slice b m2.length d] 108)
  have SB' := SB (.cells #[.int .i64 (g1 : Int), .int .i64 p1, .int .i64 (n1 : Int), .slice a m1.length c] 108) (.cells #[.int .i64 (g2 : Int), .int .i64 p2, .int .i64 (n2 : Int), .slice b m2.length d] 108)
  have MM := Lib.hid mm
  clear SA SB mm ha hb
  by_cases h1 : g1 = g2
  · have b1 : ((g1 : Int) == (g2 : Int)) = true := by simp [h1]
    by_cases h2 : p1 = p2
    · have b2 : (p1 == p2) = true := by simp [h2]
      by_cases h3 : n1 = n2
      · have b3 : ((n1 : Int) == (n2 : Int)) = true := by simp [h3]
        obtain ⟨t, ht⟩ : ∃ t, t = (m1 == m2) := ⟨_, rfl⟩
        have hot : o = t := by rw [HO.out, ht]; by_cases hm : m1 = m2 <;> simp [h1, h2, h3, hm]
        have HOT := Lib.hid hot
        have HT := Lib.hid ht.symm
        clear hot ht h1 h2 h3 HO
        go_enter Try.func73, Try.ntmps73
        go_wp2
        go_ret
        exact ⟨ret_val (by show Value.bool _ = _; rw [HOT.out, HT.out]), MM.out _ _⟩
      · have b3 : ((n1 : Int) == (n2 : Int)) = false := by rw [beq_eq_false_iff_ne]; omega
        have hot : o = false := by rw [HO.out]; simp [h3]
        have HOT := Lib.hid hot
        clear hot h1 h2 h3 HO SA' SB'
        go_enter Try.func73, Try.ntmps73
        go_wp2
        go_ret
        exact ⟨ret_val (by show Value.bool _ = _; rw [HOT.out]), MM.out _ _⟩
    · have b2 : (p1 == p2) = false := by simpa using h2
      have hot : o = false := by rw [HO.out]; simp [h2]
      have HOT := Lib.hid hot
      clear hot h1 h2 HO SA' SB'
      go_enter Try.func73, Try.ntmps73
      go_wp2
      go_ret
      exact ⟨ret_val (by show Value.bool _ = _; rw [HOT.out]), MM.out _ _⟩
  · have b1 : ((g1 : Int) == (g2 : Int)) = false := by rw [beq_eq_false_iff_ne]; omega
    have hot : o = false := by rw [HO.out]; simp [h1]
    have HOT := Lib.hid hot
    clear hot h1 HO SA' SB'
    go_enter Try.func73, Try.ntmps73
    go_wp2
    go_ret
    exact ⟨ret_val (by show Value.bool _ = _; rw [HOT.out]), MM.out _ _⟩

set_option maxRecDepth 100000 in
theorem pflip_nil {w : World} (page next : Int) (am : Option Addr) (nm cm : Nat) (a : Option Addr) (n cap : Nat) : Calls Try.prog 68 #[.pointer none, .int .i64 page, .int .i64 next, .slice am nm cm, .slice a n cap] w fun e w' => e = .returned (.int .i64 2) ∧ Mod (fun _ => False) w w' := by
  go_enter Try.func68, Try.ntmps68
  go_wp2
  go_ret
  exact ⟨rfl, Mod.alloc _ _ _⟩

/-! ### several -/
def newAt (l : List Int) (i : Nat) : Bool := (l.take i).all (fun x => x != l.getD i 0)
def several (l : List Int) : Nat := ((List.range l.length).filter (newAt l)).length
def severalTo (l : List Int) (i : Nat) : Nat := ((List.range i).filter (newAt l)).length
theorem severalTo_succ (l : List Int) (i : Nat) : severalTo l (i + 1) = severalTo l i + (if newAt l i = true then 1 else 0) := by
  unfold severalTo
  rw [List.range_succ, List.filter_append, List.length_append]
  congr 1
  by_cases h : newAt l i = true
  · simp [h]
  · simp [h]
theorem severalTo_le (l : List Int) (i : Nat) : severalTo l i ≤ i := by
  unfold severalTo
  have := List.length_filter_le (newAt l) (List.range i)
  rwa [List.length_range] at this
theorem Mod.drewN (F : Nat → Prop) (w : World) (n : Nat) : Mod F w (w.drewN n) := ⟨rfl, rfl, rfl, Nat.le_refl _, fun _ _ _ => rfl⟩
theorem newTo_succ (l : List Int) (y : Int) (k : Nat) (h : k < l.length) : (l.take (k + 1)).all (fun x => x != y) = ((l.take k).all (fun x => x != y) && (l[k] != y)) := by
  rw [List.take_succ_eq_append_getElem h, List.all_append]
  simp

set_option maxHeartbeats 1000000 in
set_option maxRecDepth 100000 in
theorem several_any {w : World} (a : Option Addr) (l : List Int) (n cap : Nat) (hn : l.length = n) (hll : l.length ≤ 140737488355328) (hl : IntsAt w a l) :
    Calls Try.prog 77 #[.slice a n cap] w fun e w' => e = .returned (.int .i64 (several l : Int)) ∧ Mod (fun _ => False) w w' := by
  subst hn
  have HL := Lib.hid hl
  clear hl
  go_enter Try.func77, Try.ntmps77
  go_wp2_with fail
  go_loopw [3, 4] (fun v3 v4 wr => ∃ i : Nat, i ≤ l.length ∧ v3 = .int .i64 (severalTo l i : Int) ∧ v4 = .int .i64 (i : Int) ∧ Mod (fun _ => False) w wr) (fun _ v4 _ => l.length - (intOf v4).toNat)
  case atStart => exact ⟨0, Nat.zero_le _, rfl, rfl, Mod.refl _ _⟩
  case round =>
    obtain ⟨i, hi, rfl, rfl, hm⟩ := hrel
    by_cases hlt : i < l.length
    · have hlt' : (i : Int) < (l.length : Int) := by omega
      have hne : l ≠ [] := by intro e; rw [e] at hlt; exact absurd hlt (Nat.not_lt_zero _)
      obtain ⟨b, off, rfl, hc⟩ := HL.out hne
      have hci := hc i hlt
      have HC := Lib.hid hc
      have hs := severalTo_succ l i
      have hsle := severalTo_le l i
      have hgi : l.getD i 0 = l[i] := by simp [List.getD_eq_getElem?_getD, List.getElem?_eq_getElem hlt]
      unfold newAt at hs
      rw [hgi] at hs
      obtain ⟨y, hy⟩ : ∃ y, y = l[i] := ⟨_, rfl⟩
      rw [← hy] at hci hs
      have HS := Lib.hid hs
      clear hc hne hs hgi hy
      go_wp2_with fail
      go_loopw [5, 6] (fun v5 v6 wx => ∃ k : Nat, k ≤ i ∧ v6 = .int .i64 (k : Int) ∧ v5 = .bool ((l.take k).all (fun x => x != y)) ∧ Mod (fun _ => False) w wx) (fun _ v6 _ => i - (intOf v6).toNat)
      case atStart => exact ⟨0, Nat.zero_le _, rfl, rfl, hm⟩
      case round =>
        obtain ⟨k, hk, rfl, rfl, hmx⟩ := hrel
        by_cases hkl : k < i
        · have hkl' : (k : Int) < (i : Int) := by omega
          have hk2 : k < l.length := by omega
          have hk3 : (k : Int) < (l.length : Int) := by omega
          have cx := hmx.cell' (HC.out k hk2) id
          have ci := hmx.cell' hci id
          have hst := newTo_succ l y k hk2
          obtain ⟨x, hx⟩ : ∃ x, x = l[k] := ⟨_, rfl⟩
          rw [← hx] at cx hst
          have HST := Lib.hid hst
          clear hst hx hk2
          generalize (l.take k).all (fun x => x != y) = t at *
          cases t
          · go_upto_region 9 with fail
            go_quiet (fail)
            go_wp2
            go_roundw
            case rel => exact ⟨k + 1, by omega, by go_num, by rw [HST.out]; rfl, hmx.trans' (Mod.drewN _ _ _)⟩
            case measure => simp [intOf]; omega
          · go_upto_region 9 with fail
            go_quiet (fail)
            go_wp2
            go_roundw
            case rel => exact ⟨k + 1, by omega, by go_num, by rw [HST.out]; rfl, hmx.trans' (Mod.drewN _ _ _)⟩
            case measure => simp [intOf]; omega
        · obtain rfl : k = i := by omega
          generalize (l.take k).all (fun x => x != y) = t at *
          cases t
          · go_wp2
            go_roundw
            case rel => exact ⟨k + 1, by omega, by rw [HS.out]; rfl, by go_num, hmx⟩
            case measure => simp [intOf]; omega
          · have hw : IntKind.i64.wrap ((severalTo l k : Int) + 1) = (severalTo l k : Int) + 1 := IntWalk.i64_in _ (by omega)
            go_wp2
            go_roundw
            case rel => exact ⟨k + 1, by omega, by rw [HS.out]; go_num, by go_num, hmx⟩
            case measure => simp [intOf]; omega
    · obtain rfl : i = l.length := by omega
      go_wp2
      go_ret
      exact ⟨rfl, hm⟩
end Go.Proofs.Ytdinnkacilgmmaa
