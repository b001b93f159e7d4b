/- The walks of Load and New. -/
import Derived.Test.YtdinnkacilgmmaaDisk4
namespace Go.Proofs.Ytdinnkacilgmmaa
open Go.RowKit

/-- a disk of an image -/
def Dsk.of (l : List UInt8) : Dsk := ⟨l, [], false, false, false⟩
def imageOk (n : Nat) : Prop := n / 256 * 256 = n ∧ 1 ≤ n / 256 ∧ n / 256 ≤ 4096
instance (n : Nat) : Decidable (imageOk n) := by unfold imageOk; exact inferInstance

theorem Dsk.of_wf (l : List UInt8) (h : imageOk l.length) : (Dsk.of l).wf :=
  ⟨h.1.symm, h.2.1, h.2.2, fun x hx => by cases hx⟩

/-- a new disk: of blocks that were not there -/
def Born (w : World) (B : Nat) (v : Value) (D : Dsk) (w' : World) : Prop :=
  ∃ p F, v = .pointer (some ⟨p, 0, none⟩) ∧ DiskAt w' B p D F ∧ Mod (fun _ => False) w w' ∧ ∀ k, F k → w.heap.size ≤ k

theorem born_of {w w2 : World} {B : Nat} {v1 v2 : Value} {l : List UInt8} (hB : B ≤ w.heap.size) (hi : imageOk l.length) (hm : Mod (fun _ => False) w w2) (o1 : OwnB w2 B v1 l) (o2 : OwnB w2 B v2 l)
    (n1 : ∀ k, v1.ownBlock = some k → w.heap.size ≤ k) (n2 : ∀ k, v2.ownBlock = some k → w.heap.size ≤ k) (hap : v1.ownBlock ≠ v2.ownBlock) :
    Born w B (.pointer (some ⟨w2.heap.size, 0, none⟩)) (Dsk.of l) (w2.alloc (.cells #[v1, v2, .slice none 0 0, .bool false, .bool false, .bool false] 129)) := by
  have ma : Mod (fun _ => False) w2 (w2.alloc (.cells #[v1, v2, .slice none 0 0, .bool false, .bool false, .bool false] 129)) := Mod.alloc _ _ _
  refine ⟨w2.heap.size, _, rfl, ⟨v1, v2, .slice none 0 0, ⟨Dsk.of_wf l hi, heap_alloc_new w2 _, Nat.le_trans hB hm.size, o1.mod ma (fun _ _ => id), ?_, OwnC.nil _ _, hap⟩, rfl⟩, hm.trans' ma, ?_⟩
  · exact o2.mod ma (fun _ _ => id)
  · rintro k (e | e | e | e)
    · rw [e]; exact hm.size
    · exact n1 k e.symm
    · exact n2 k e.symm
    · simp [Value.ownBlock] at e

set_option maxRecDepth 100000 in
theorem load_ok {w : World} {B : Nat} (hB : B ≤ w.heap.size) (a : Option Addr) (l : List UInt8) (cap : Nat) (hb : BytesAt w a l) (hm : l.length ≤ 140737488355328) (hi : imageOk l.length) :
    Calls Try.prog 36 #[.slice a l.length cap] w fun e w' => ∃ v, e = .returned (.tuple #[v, .int .i64 0]) ∧ Born w B v (Dsk.of l) w' := by
  have h1 : (l.length : Int) / 256 * 256 = (l.length : Int) := by have := hi.1; omega
  have h2 : 1 ≤ (l.length : Int) / 256 := by have := hi.2.1; omega
  have h3 : (l.length : Int) / 256 ≤ 4096 := by have := hi.2.2; omega
  have ha : a = none → l = [] ∧ cap = 0 := by
    rintro rfl
    exfalso
    have := hi.2.1
    obtain ⟨_, _, e, _⟩ := hb (by intro e; rw [e] at this; simp at this)
    cases e
  go_enter Try.func36, Try.ntmps36
  go_wp2_with fail
  refine (clone_any a l cap w B hB hm ha hb).mono ?_
  rintro e w1 ⟨v1, rfl, o1, m1, n1⟩
  have o1' := o1
  obtain ⟨a1, c1, rfl, -, -, -⟩ := o1.shape
  go_wp2_with fail
  refine (clone_any a l cap w1 B (Nat.le_trans hB m1.size) hm ha (hb.mod m1 (fun _ _ _ => id))).mono ?_
  rintro e w2 ⟨v2, rfl, o2, m2, n2⟩
  have o2' := o2
  obtain ⟨a2, c2, rfl, -, -, -⟩ := o2.shape
  go_wp2
  go_ret2
  refine ⟨_, rfl, born_of hB hi (m1.trans' m2) (o1'.mod m2 (fun _ _ => id)) o2' n1 (fun k hk => Nat.le_trans m1.size (n2 k hk)) ?_⟩
  intro e
  obtain ⟨k, hk⟩ : ∃ k, (Value.slice a1 l.length c1).ownBlock = some k := by
    have := hi.2.1
    obtain ⟨g, _, _, e2, _⟩ := o1'.row (by intro e; rw [e] at this; simp at this)
    exact ⟨g, by rw [e2]; rfl⟩
  have h4 := (World.ownsRow.lt o1' k hk).2
  have h5 := n2 k (by rw [← e, hk])
  omega

set_option maxRecDepth 100000 in
theorem load_no {w : World} (a : Option Addr) (l : List UInt8) (cap : Nat) (hm : l.length ≤ 140737488355328) (hi : ¬ imageOk l.length) :
    Calls Try.prog 36 #[.slice a l.length cap] w fun e w' => e = .returned (.tuple #[.pointer none, .int .i64 1]) ∧ w = w' := by
  generalize l.length = n at *
  by_cases h1 : (n : Int) / 256 * 256 = (n : Int)
  · by_cases h2 : 1 ≤ (n : Int) / 256
    · have h3 : 4096 < (n : Int) / 256 := by unfold imageOk at hi; omega
      go_enter Try.func36, Try.ntmps36
      go_wp2
      go_ret2
      exact ⟨rfl, rfl⟩
    · have h2' : (n : Int) / 256 < 1 := by omega
      go_enter Try.func36, Try.ntmps36
      go_wp2
      go_ret2
      exact ⟨rfl, rfl⟩
  · have h1' : ((n : Int) / 256 * 256 != (n : Int)) = true := by simpa using h1
    go_enter Try.func36, Try.ntmps36
    go_wp2
    go_ret2
    exact ⟨rfl, rfl⟩

set_option maxRecDepth 100000 in
theorem new_ok {w : World} {B : Nat} (hB : B ≤ w.heap.size) (n : Nat) (h1 : 1 ≤ n) (h2 : n ≤ 4096) :
    Calls Try.prog 31 #[.int .i64 (n : Int)] w fun e w' => ∃ v, e = .returned (.tuple #[v, .int .i64 0]) ∧ Born w B v (Dsk.of (List.replicate (n * 256) 0)) w' := by
  have hi : imageOk (List.replicate (n * 256) (0 : UInt8)).length := by rw [List.length_replicate]; unfold imageOk; omega
  have km : ∀ w : World, (Instr.makeSlice 22 (.int .i64 ((n : Int) * 256)) (.int .i64 ((n : Int) * 256))).run Try.prog w = .ok (.slice (some ⟨w.heap.size, 0, none⟩) (n * 256) (n * 256)) (w.alloc (.cells (zerosV (n * 256)) 5)) :=
    fun w => by have := run_make_bytes w (n * 256) (by omega); rw [Int.natCast_mul] at this; exact this
  have hlo : (1 : Int) ≤ (n : Int) := by omega
  have hhi : (n : Int) ≤ 4096 := by omega
  have hl := load_ok (w := w.alloc (.cells (zerosV (n * 256)) 5)) (B := B) (by simp; omega) (some ⟨w.heap.size, 0, none⟩) (List.replicate (n * 256) 0) (n * 256) (bytesAt_zeros' rfl) (by rw [List.length_replicate]; omega) hi
  rw [List.length_replicate] at hl
  go_enter Try.func31, Try.ntmps31
  go_wp2_with fail
  refine hl.mono ?_
  rintro e w1 ⟨v, rfl, p, F, rfl, d1, m1, n1⟩
  go_wp2
  go_ret2
  exact ⟨_, rfl, p, F, rfl, d1, (Mod.alloc _ _ _).trans' m1, fun k hk => by have := n1 k hk; simp at this; omega⟩

theorem new_no {w : World} (n : Int) (h : n < 1 ∨ 4096 < n) :
    Calls Try.prog 31 #[.int .i64 n] w fun e w' => e = .returned (.tuple #[.pointer none, .int .i64 1]) ∧ w = w' := by
  by_cases h1 : n < 1
  · go_enter Try.func31, Try.ntmps31
    go_wp2
    go_ret2
    exact ⟨rfl, rfl⟩
  · have h2 : 4096 < n := by omega
    go_enter Try.func31, Try.ntmps31
    go_wp2
    go_ret2
    exact ⟨rfl, rfl⟩
end Go.Proofs.Ytdinnkacilgmmaa
