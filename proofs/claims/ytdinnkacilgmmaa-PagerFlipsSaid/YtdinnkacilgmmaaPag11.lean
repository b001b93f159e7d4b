/- The pager: ContainsFunc, Use. -/
import Derived.Test.YtdinnkacilgmmaaPag10
namespace Go.Proofs.Ytdinnkacilgmmaa
open Go.RowKit

/-- there is one: what IndexFunc tells -/
def Found (l : List Int) (g : Int → Bool) (e : Ending) : Prop := ∃ i : Int, e = .returned (.int .i64 i) ∧ (decide (0 ≤ i) = l.any g)

set_option maxHeartbeats 1000000 in
set_option maxRecDepth 100000 in
theorem index_110 {w : World} (a : Option Addr) (l : List Int) (n cap : Nat) (hn : l.length = n) (hll : l.length ≤ 140737488355328) (hl : IntsAt w a l) (box : Value) (g : Int → Bool)
    (hK : ∀ x, Calls Try.prog 110 #[.int .i64 x, box] w fun e w' => e = .returned (.bool (g x)) ∧ w = w') :
    Calls Try.prog 131 #[.slice a n cap, .func (.func 110) #[] #[box]] w fun e w' => Found l g e ∧ w = w' := by
  subst hn
  have HK := Lib.hid hK
  clear hK
  go_enter Try.func131, Try.ntmps131
  go_wp2_with fail
  go_loopw [8] (fun v8 wr => ∃ i : Nat, i ≤ l.length ∧ v8 = .int .i64 (i : Int) ∧ (l.take i).any g = false ∧ w = wr) (fun v8 _ => l.length - (intOf v8).toNat)
  case atStart => exact ⟨0, Nat.zero_le _, rfl, rfl, rfl⟩
  case round =>
    obtain ⟨i, hi, rfl, hany, rfl⟩ := hrel
    by_cases hlt : i < l.length
    · have hlt' : (i : Int) < (l.length : Int) := by omega
      have hne : l ≠ [] := by intro e; rw [e] at hlt; exact absurd hlt (Nat.not_lt_zero _)
      obtain ⟨b, off, rfl, hc⟩ := hl hne
      have hci := hc i hlt
      have hmem : l[i] ∈ l := List.getElem_mem _
      have hK := HK.out l[i]
      have hst : (l.take (i + 1)).any g = g l[i] := by
        rw [List.take_succ_eq_append_getElem hlt, List.any_append, hany]; simp
      have hgl : g l[i] = true → l.any g = true := fun h => List.any_eq_true.2 ⟨_, hmem, h⟩
      have HST := Lib.hid hst
      have HGL := Lib.hid hgl
      clear hst hgl hany hmem hc hne
      generalize l[i] = x at *
      cases hg : g x
      · rw [hg] at hK
        replace hK := Lib.hid hK
        go_wp2_with (go_at_call 110; refine hK.out.mono ?_; rintro e wb ⟨rfl, rfl⟩)
        go_roundw
        case rel => exact ⟨i + 1, by omega, by go_num, by rw [HST.out, hg], trivial⟩
        case measure => simp [intOf]; omega
      · rw [hg] at hK
        have hyes := Lib.hid (HGL.out hg)
        replace hK := Lib.hid hK
        clear hg
        go_wp2_with (go_at_call 110; refine hK.out.mono ?_; rintro e wb ⟨rfl, rfl⟩)
        go_ret
        exact ⟨⟨_, rfl, by rw [hyes.out]; exact decide_eq_true (by omega)⟩, rfl⟩
    · obtain rfl : i = l.length := by omega
      rw [List.take_length] at hany
      have HANY := Lib.hid hany
      clear hany
      go_wp2
      go_ret
      exact ⟨⟨_, rfl, by rw [HANY.out]; decide⟩, rfl⟩

set_option maxRecDepth 100000 in
theorem contains_110 {w : World} (a : Option Addr) (l : List Int) (n cap : Nat) (hn : l.length = n) (hll : l.length ≤ 140737488355328) (hl : IntsAt w a l) (box : Value) (g : Int → Bool)
    (hK : ∀ x, Calls Try.prog 110 #[.int .i64 x, box] w fun e w' => e = .returned (.bool (g x)) ∧ w = w') :
    Calls Try.prog 109 #[.slice a n cap, .func (.func 110) #[] #[box]] w fun e w' => e = .returned (.bool (l.any g)) ∧ w = w' := by
  obtain ⟨o, ho⟩ : ∃ o, o = l.any g := ⟨_, rfl⟩
  have KI := index_110 a l n cap hn hll hl box g hK
  rw [← ho]
  have KI2 : Calls Try.prog 131 #[.slice a n cap, .func (.func 110) #[] #[box]] w fun e w' => (∃ i : Int, e = .returned (.int .i64 i) ∧ decide (0 ≤ i) = o) ∧ w = w' := KI.mono fun e w' ⟨⟨i, h1, h2⟩, h3⟩ => ⟨⟨i, h1, h2.trans ho.symm⟩, h3⟩
  clear KI ho hK hl hll hn
  go_enter Try.func109, Try.ntmps109
  go_wp2_with fail
  refine KI2.mono ?_
  rintro e wb ⟨⟨i, rfl, hi⟩, rfl⟩
  have HI := Lib.hid hi
  clear hi
  go_wp2
  go_ret
  refine ⟨ret_val ?_, rfl⟩
  exact congrArg Value.bool HI.out

set_option maxHeartbeats 1000000 in
set_option maxRecDepth 100000 in
theorem index_114 {w : World} (a : Option Addr) (l : List Int) (n cap : Nat) (hn : l.length = n) (hll : l.length ≤ 140737488355328) (hl : IntsAt w a l) (box : Value) (g : Int → Bool)
    (hK : ∀ x, Calls Try.prog 114 #[.int .i64 x, box] w fun e w' => e = .returned (.bool (g x)) ∧ w = w') :
    Calls Try.prog 131 #[.slice a n cap, .func (.func 114) #[] #[box]] w fun e w' => Found l g e ∧ w = w' := by
  subst hn
  have HK := Lib.hid hK
  clear hK
  go_enter Try.func131, Try.ntmps131
  go_wp2_with fail
  go_loopw [8] (fun v8 wr => ∃ i : Nat, i ≤ l.length ∧ v8 = .int .i64 (i : Int) ∧ (l.take i).any g = false ∧ w = wr) (fun v8 _ => l.length - (intOf v8).toNat)
  case atStart => exact ⟨0, Nat.zero_le _, rfl, rfl, rfl⟩
  case round =>
    obtain ⟨i, hi, rfl, hany, rfl⟩ := hrel
    by_cases hlt : i < l.length
    · have hlt' : (i : Int) < (l.length : Int) := by omega
      have hne : l ≠ [] := by intro e; rw [e] at hlt; exact absurd hlt (Nat.not_lt_zero _)
      obtain ⟨b, off, rfl, hc⟩ := hl hne
      have hci := hc i hlt
      have hmem : l[i] ∈ l := List.getElem_mem _
      have hK := HK.out l[i]
      have hst : (l.take (i + 1)).any g = g l[i] := by
        rw [List.take_succ_eq_append_getElem hlt, List.any_append, hany]; simp
      have hgl : g l[i] = true → l.any g = true := fun h => List.any_eq_true.2 ⟨_, hmem, h⟩
      have HST := Lib.hid hst
      have HGL := Lib.hid hgl
      clear hst hgl hany hmem hc hne
      generalize l[i] = x at *
      cases hg : g x
      · rw [hg] at hK
        replace hK := Lib.hid hK
        go_wp2_with (go_at_call 114; refine hK.out.mono ?_; rintro e wb ⟨rfl, rfl⟩)
        go_roundw
        case rel => exact ⟨i + 1, by omega, by go_num, by rw [HST.out, hg], trivial⟩
        case measure => simp [intOf]; omega
      · rw [hg] at hK
        have hyes := Lib.hid (HGL.out hg)
        replace hK := Lib.hid hK
        clear hg
        go_wp2_with (go_at_call 114; refine hK.out.mono ?_; rintro e wb ⟨rfl, rfl⟩)
        go_ret
        exact ⟨⟨_, rfl, by rw [hyes.out]; exact decide_eq_true (by omega)⟩, rfl⟩
    · obtain rfl : i = l.length := by omega
      rw [List.take_length] at hany
      have HANY := Lib.hid hany
      clear hany
      go_wp2
      go_ret
      exact ⟨⟨_, rfl, by rw [HANY.out]; decide⟩, rfl⟩

set_option maxRecDepth 100000 in
theorem contains_114 {w : World} (a : Option Addr) (l : List Int) (n cap : Nat) (hn : l.length = n) (hll : l.length ≤ 140737488355328) (hl : IntsAt w a l) (box : Value) (g : Int → Bool)
    (hK : ∀ x, Calls Try.prog 114 #[.int .i64 x, box] w fun e w' => e = .returned (.bool (g x)) ∧ w = w') :
    Calls Try.prog 109 #[.slice a n cap, .func (.func 114) #[] #[box]] w fun e w' => e = .returned (.bool (l.any g)) ∧ w = w' := by
  obtain ⟨o, ho⟩ : ∃ o, o = l.any g := ⟨_, rfl⟩
  have KI := index_114 a l n cap hn hll hl box g hK
  rw [← ho]
  have KI2 : Calls Try.prog 131 #[.slice a n cap, .func (.func 114) #[] #[box]] w fun e w' => (∃ i : Int, e = .returned (.int .i64 i) ∧ decide (0 ≤ i) = o) ∧ w = w' := KI.mono fun e w' ⟨⟨i, h1, h2⟩, h3⟩ => ⟨⟨i, h1, h2.trans ho.symm⟩, h3⟩
  clear KI ho hK hl hll hn
  go_enter Try.func109, Try.ntmps109
  go_wp2_with fail
  refine KI2.mono ?_
  rintro e wb ⟨⟨i, rfl, hi⟩, rfl⟩
  have HI := Lib.hid hi
  clear hi
  go_wp2
  go_ret
  refine ⟨ret_val ?_, rfl⟩
  exact congrArg Value.bool HI.out
end Go.Proofs.Ytdinnkacilgmmaa
