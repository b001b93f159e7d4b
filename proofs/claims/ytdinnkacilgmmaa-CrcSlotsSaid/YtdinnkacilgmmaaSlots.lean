/- CrcSlots: the walk. -/
import Derived.Test.YtdinnkacilgmmaaCrc
import Derived.Test.YtdinnkacilgmmaaLift
import Derived.Laws.IdiomStrings
namespace Go.Proofs.Ytdinnkacilgmmaa
open Go.RowKit

theorem bytesAt_str {w : World} {s : ByteArray} {c : Nat} {t : TypeId} {fz : Nat × Nat} {k : Nat} (hk : k = w.heap.size) :
    BytesAt (w.alloc (.cells (bytesRow s c) t fz)) (some ⟨k, 0, none⟩) s.data.toList := by
  subst hk
  refine bytesAt_of_block (heap_alloc_new w _) _ (fun j hj => ?_)
  rw [Nat.zero_add, bytesRow_at s c j (by simpa using hj)]
  simp

theorem str_len (s : ByteArray) : s.data.toList.length = s.size := by simp

set_option maxHeartbeats 400000 in
theorem slot_any (s : ByteArray) (w : World) (hs : s.size ≤ 140737488351232) :
    Calls Try.prog 28 #[.string s] w fun e w' => e = .returned (.int .i64 ((crc s.data.toList).toNat % 16 : Nat)) ∧ Below w.heap.size w w' := by
  have kb := fun (w : World) => run_bytes_of_string (P := Try.prog) w 9 22 5 s Try.underlying9 Try.underlying22 Try.underlying5
  go_enter Try.func28, Try.ntmps28
  go_wp2_with fail
  refine (sum_n _ s.data.toList s.size _ _ (by simp) (by simp; omega) (by exact bytesAt_str (by simp))).mono ?_
  rintro e w' ⟨rfl, rfl⟩
  have hlt := (crc s.data.toList).isLt
  go_wp2
  go_ret
  exact ⟨ret_val (by show Value.int _ _ = _; simp), ((Below.refl _ _).drew).alloc (by simp) _⟩

theorem and15 (x : BitVec 32) : bits .and .u32 (x.toNat : Int) 15 = ((x.toNat % 16 : Nat) : Int) := by
  rw [show (15 : Int) = (((15#32).toNat : Nat) : Int) from rfl, bits_and, BitVec.toNat_and]
  congr 1
  exact Nat.and_two_pow_sub_one_eq_mod x.toNat 4

set_option maxHeartbeats 1000000 in
set_option maxRecDepth 100000 in
theorem slots_walk (s t : ByteArray) (w : World) (hs : s.size ≤ 140737488351232) (ht : t.size ≤ 140737488351232) :
    Calls Try.prog 5 #[.string s, .string t] w fun e w' => e = .returned (.bool true) ∧ Below w.heap.size w w' := by
  have kb := fun (w : World) => run_bytes_of_string (P := Try.prog) w 9 22 5 s Try.underlying9 Try.underlying22 Try.underlying5
  by_cases h : s = t
  · subst h
    go_enter Try.func5, Try.ntmps5
    go_wp2_with fail
    refine (slot_any s _ hs).mono ?_
    rintro e w1 ⟨rfl, hb1⟩
    have hq := Lib.hid (and15 (crc s.data.toList))
    have hlt := (crc s.data.toList).isLt
    have hlt2 : (crc s.data.toList).toNat % 16 < 16 := Nat.mod_lt _ (by decide)
    generalize hx : (crc s.data.toList).toNat % 16 = x at *
    go_wp2_with fail
    refine (slot_any s _ hs).mono ?_
    rintro e w2 ⟨rfl, hb2⟩
    rw [hx]
    go_wp2_with fail
    refine (sum_n _ s.data.toList s.size _ _ (by simp) (by simp; omega) (by exact bytesAt_str (by simp))).mono ?_
    rintro e w' ⟨rfl, rfl⟩
    have hq2 := hq.out
    go_wp2_with (go_at_call 25; refine (known_any _).mono ?_; rintro e w3 ⟨rfl, hb3⟩)
    go_ret
    refine ⟨rfl, ?_⟩
    have h12 : Below w.heap.size w w2 := hb1.trans (hb2.mono hb1.size)
    have h4 := ((h12.drew).alloc (by have := h12.size; simpa using this) (.cells (bytesRow s (grownCap w2 s.size 0 5)) 5 ((bytesRow s (grownCap w2 s.size 0 5)).size, (bytesRow s (grownCap w2 s.size 0 5)).size + 1)))
    exact h4.trans (hb3.mono h4.size)
  · have hne : (s.toList == t.toList) = false := by
      rw [beq_eq_false_iff_ne]
      intro e
      rw [ByteArray.toList_eq, ByteArray.toList_eq] at e
      exact h (ByteArray.ext (Array.toList_inj.mp e))
    have hne2 : ¬ s.toList = t.toList := by simpa using hne
    go_enter Try.func5, Try.ntmps5
    go_wp2_with fail
    refine (slot_any s _ hs).mono ?_
    rintro e w2 ⟨rfl, h12⟩
    have hq := Lib.hid (and15 (crc s.data.toList))
    have hlt := (crc s.data.toList).isLt
    have hlt2 : (crc s.data.toList).toNat % 16 < 16 := Nat.mod_lt _ (by decide)
    generalize hx : (crc s.data.toList).toNat % 16 = x at *
    go_wp2_with fail
    refine (sum_n _ s.data.toList s.size _ _ (by simp) (by simp; omega) (by exact bytesAt_str (by simp))).mono ?_
    rintro e w' ⟨rfl, rfl⟩
    have hq2 := hq.out
    go_wp2_with (go_at_call 25; refine (known_any _).mono ?_; rintro e w3 ⟨rfl, hb3⟩)
    go_ret
    refine ⟨rfl, ?_⟩
    have h4 := ((h12.drew).alloc (by have := h12.size; simpa using this) (.cells (bytesRow s (grownCap w2 s.size 0 5)) 5 ((bytesRow s (grownCap w2 s.size 0 5)).size, (bytesRow s (grownCap w2 s.size 0 5)).size + 1)))
    exact h4.trans (hb3.mono h4.size)

theorem slots_all (W : World) {s t : ByteArray} (h0 : s.data.toList.length ≤ reachBytes) (h1 : t.data.toList.length ≤ reachBytes) :
    Calls Try.prog 5 #[.string s, .string t] W fun e w' => e = .returned (.bool true) ∧ Below W.heap.size W w' :=
  slots_walk s t W (by simpa [reachBytes] using h0) (by simpa [reachBytes] using h1)

end Go.Proofs.Ytdinnkacilgmmaa
