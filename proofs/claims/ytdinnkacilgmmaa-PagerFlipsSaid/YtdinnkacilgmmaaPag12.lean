/- The pager: the closures of Flip and Use; Use. -/
import Derived.Test.YtdinnkacilgmmaaPag11
namespace Go.Proofs.Ytdinnkacilgmmaa
open Go.RowKit

/-- a page that a root may not use -/
def Pgr.noFlip (P : Pgr) (x : Int) : Bool := !P.there x || (P.is_.getD x.toNat 0 == 0)
def Pgr.noUse (P : Pgr) (x : Int) : Bool := !P.there x

set_option maxRecDepth 100000 in
theorem close114_any {w : World} {B q p k : Nat} {vm : Value} {P : Pgr} (hp : PgV w B q p vm P) (hk : w.cell? ⟨k, 0, none⟩ = some (.pointer (some ⟨q, 0, none⟩))) (x : Int) :
    Calls Try.prog 114 #[.int .i64 x, .pointer (some ⟨k, 0, none⟩)] w fun e w' => e = .returned (.bool (P.noUse x)) ∧ w = w' := by
  unfold Pgr.noUse
  obtain ⟨t, ht⟩ : ∃ t, t = P.there x := ⟨_, rfl⟩
  have KT := there_any hp x
  rw [← ht] at KT
  rw [← ht]
  replace KT := Lib.hid KT
  clear ht hp
  go_enter Try.func114, Try.ntmps114
  go_wp2_with (first | (go_at_call 107; refine KT.out.mono ?_; rintro e wb ⟨rfl, rfl⟩))
  go_ret
  exact ⟨rfl, rfl⟩

set_option maxRecDepth 100000 in
theorem close110_any {w : World} {B q p k : Nat} {vm : Value} {P : Pgr} (hp : PgV w B q p vm P) (hpg : P.pages ≤ 4096) (hk : w.cell? ⟨k, 0, none⟩ = some (.pointer (some ⟨q, 0, none⟩))) (x : Int) :
    Calls Try.prog 110 #[.int .i64 x, .pointer (some ⟨k, 0, none⟩)] w fun e w' => e = .returned (.bool (P.noFlip x)) ∧ w = w' := by
  obtain ⟨t, ht⟩ : ∃ t, t = P.noFlip x := ⟨_, rfl⟩
  have KT := there_any hp x
  rw [← ht]
  unfold Pgr.noFlip at ht
  by_cases h : P.there x = true
  · have ht' : 0 ≤ x ∧ x < (P.pages : Int) := of_decide_eq_true h
    obtain ⟨m, rfl⟩ : ∃ m : Nat, x = (m : Int) := ⟨x.toNat, by omega⟩
    have hm : m < 4096 := by omega
    have hc := hp.is_cell m hm
    have hgm : P.is_.getD m 0 = P.is_[m]'(by have := hp.len; omega) := by simp [List.getD_eq_getElem?_getD, List.getElem?_eq_getElem (show m < P.is_.length by have := hp.len; omega)]
    rw [← hgm] at hc
    rw [h] at KT ht
    rw [Int.toNat_natCast] at ht
    replace KT := Lib.hid KT
    have hmi : (0 : Int) ≤ (m : Int) := by omega
    have hmj : (m : Int) < 4096 := by omega
    have HT := Lib.hid ht
    clear ht hp hgm h ht'
    generalize P.is_.getD m 0 = c at *
    unfold byteV at hc
    by_cases h0 : c = 0
    · subst h0
      have ht := HT.out
      subst ht
      clear HT
      go_enter Try.func110, Try.ntmps110
      go_wp2_with (first | (go_at_call 107; refine KT.out.mono ?_; rintro e wb ⟨rfl, rfl⟩))
      go_ret
      exact ⟨rfl, rfl⟩
    · have hc0 : ((c.toNat : Int) == 0) = false := by
        rw [beq_eq_false_iff_ne]
        intro e
        exact h0 (UInt8.toNat_inj.1 (by show c.toNat = 0; omega))
      have ht := HT.out
      have e : (c == 0) = false := by simpa using h0
      rw [e] at ht
      subst ht
      clear HT e h0
      go_enter Try.func110, Try.ntmps110
      go_wp2_with (first | (go_at_call 107; refine KT.out.mono ?_; rintro e wb ⟨rfl, rfl⟩))
      go_ret
      exact ⟨rfl, rfl⟩
  · have hf : P.there x = false := by simpa using h
    rw [hf] at KT ht
    subst ht
    replace KT := Lib.hid KT
    clear hp h hf
    go_enter Try.func110, Try.ntmps110
    go_wp2_with (first | (go_at_call 107; refine KT.out.mono ?_; rintro e wb ⟨rfl, rfl⟩))
    go_ret
    exact ⟨rfl, rfl⟩

def Pgr.whyUse (P : Pgr) (l : List Int) : Int := if l.any P.noUse = true then 1 else 0
def Pgr.use (P : Pgr) (l : List Int) : Pgr := if l.any P.noUse = true then P else { P with is_ := setAll l zeros4096 }
theorem not_any_noUse {P : Pgr} {l : List Int} (h : l.any P.noUse = false) (hpg : P.pages ≤ 4096) : ∀ x ∈ l, 0 ≤ x ∧ x < 4096 := fun x hx => by
  have := List.any_eq_false.1 h x hx
  unfold Pgr.noUse at this
  have h1 : P.there x = true := by simpa using this
  have h2 : 0 ≤ x ∧ x < (P.pages : Int) := of_decide_eq_true h1
  omega
theorem not_any_noFlip {P : Pgr} {l : List Int} (h : l.any P.noFlip = false) (hpg : P.pages ≤ 4096) : ∀ x ∈ l, 0 ≤ x ∧ x < 4096 := fun x hx => by
  have := List.any_eq_false.1 h x hx
  unfold Pgr.noFlip at this
  have h1 : P.there x = true := by
    cases e : P.there x
    · rw [e] at this; exact absurd rfl this
    · rfl
  have h2 : 0 ≤ x ∧ x < (P.pages : Int) := of_decide_eq_true h1
  omega

set_option maxRecDepth 100000 in
theorem puse_nil {w : World} (a : Option Addr) (n cap : Nat) : Calls Try.prog 78 #[.pointer none, .slice a n cap] w fun e w' => e = .returned (.int .i64 2) ∧ Mod (fun _ => False) w w' := by
  go_enter Try.func78, Try.ntmps78
  go_wp2
  go_ret
  exact ⟨rfl, Mod.alloc _ _ _⟩

set_option maxRecDepth 100000 in
theorem puse_any {w : World} {B q p : Nat} {vm : Value} {P : Pgr} (hp : PgV w B q p vm P) (hpg : P.pages ≤ 4096) (a : Option Addr) (l : List Int) (n cap : Nat) (hn : l.length = n) (hll : l.length ≤ 140737488355328) (hl : IntsAt w a l) (hla : ∀ x, a = some x → l ≠ [] → ¬ x.block = q) :
    Calls Try.prog 78 #[.pointer (some ⟨q, 0, none⟩), .slice a n cap] w fun e w' => e = .returned (.int .i64 (P.whyUse l)) ∧ PgV w' B q p vm (P.use l) ∧ Mod (fun k => k = q) w w' := by
  subst hn
  obtain ⟨o, ho⟩ : ∃ o, o = P.whyUse l := ⟨_, rfl⟩
  obtain ⟨P', hP'⟩ : ∃ P', P' = P.use l := ⟨_, rfl⟩
  rw [← ho, ← hP']
  unfold Pgr.whyUse at ho
  unfold Pgr.use at hP'
  have m1 : Mod (fun _ => False) w (w.alloc (.cells #[.pointer (some ⟨q, 0, none⟩)] 93)) := Mod.alloc _ _ _
  have hk : (w.alloc (.cells #[.pointer (some ⟨q, 0, none⟩)] 93)).cell? ⟨w.heap.size, 0, none⟩ = some (.pointer (some ⟨q, 0, none⟩)) := cell_of_row _ _ 0 _ 93 (0, 0) (heap_alloc_new _ _)
  have hp1 := hp.mod m1 (fun _ _ => id)
  have hl1 := hl.mod m1 (fun _ _ _ => id)
  have KC := contains_114 a l l.length cap rfl hll hl1 (.pointer (some ⟨w.heap.size, 0, none⟩)) P.noUse (fun x => close114_any hp1 hk x)
  by_cases h : l.any P.noUse = true
  · rw [h] at KC
    rw [if_pos h] at ho hP'
    subst ho hP'
    replace KC := Lib.hid KC
    have HP := Lib.hid hp1
    have M1 := Lib.hid m1
    clear h hp hp1 m1 hk hl hl1
    go_enter Try.func78, Try.ntmps78
    go_wp2_with fail
    refine KC.out.mono ?_
    rintro e wb ⟨rfl, rfl⟩
    go_wp2
    go_ret
    exact ⟨rfl, HP.out, M1.out.mono (fun _ _ e => e.elim)⟩
  · have h' : l.any P.noUse = false := by simpa using h
    rw [h'] at KC
    rw [if_neg h] at ho hP'
    subst ho hP'
    have KS := pset_any hp1 a l l.length cap rfl hll hl1 hla (not_any_noUse h' hpg)
    replace KC := Lib.hid KC
    have M1 := Lib.hid m1
    replace KS := Lib.hid KS
    clear h h' hp hp1 m1 hl hl1
    go_enter Try.func78, Try.ntmps78
    go_wp2_with fail
    refine KC.out.mono ?_
    rintro e wb ⟨rfl, rfl⟩
    go_wp2_with fail
    refine KS.out.mono ?_
    rintro e wb ⟨rfl, hp2, m2⟩
    go_wp2
    go_ret
    exact ⟨rfl, hp2, (M1.out.mono (fun _ _ e => e.elim)).trans' m2⟩
end Go.Proofs.Ytdinnkacilgmmaa
