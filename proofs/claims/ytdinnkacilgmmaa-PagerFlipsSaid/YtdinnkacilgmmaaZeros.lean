/- append(v, make([]byte, k)...) on bytes that the call owns. -/
import Derived.Test.YtdinnkacilgmmaaMem
import Derived.Lib.AppendZerosOnto
namespace Go.Proofs.Ytdinnkacilgmmaa
open Go.RowKit

theorem zeroCells_bytes (k : Nat) : Builtin.zeroCells (Value.cells (.int .u8 0)) k = ((List.replicate k (0 : UInt8)).map byteV).toArray := by
  apply Array.ext_getElem?
  intro i
  unfold Builtin.zeroCells Value.cells
  by_cases h : i < k <;> simp [h, Nat.mod_one]

theorem run_append_zeros (w : World) (ty : TypeId) (B : Nat) (v : Value) (l : List UInt8) (hown : OwnB w B v l) (k : Nat) (hk : l.length + k ≤ 140737488355328) (hB : B ≤ w.heap.size) :
    ∃ v' w', (Builtin.append_ #[22, 3] ty #[v, .int .i64 (k : Int)]).run Try.prog w = .ok v' w' ∧ OwnB w' B v' (l ++ List.replicate k 0) ∧ Mod (fun j => some j = v.ownBlock) w w' := by
  obtain ⟨i, hi, hz, hs1, hb1⟩ := info_parts info5
  have h3 : Try.prog.underlying 3 = some (.int .i64) := Try.underlying3
  have grown : ∀ (old : Nat) (row : Option Nat), old < l.length + k →
      OwnB (w.drew.alloc (.cells ((l.map byteV).toArray ++ Builtin.zeroCells (Value.cells (.int .u8 0)) k ++ Builtin.zeroCells (Value.cells (.int .u8 0)) (grownCap w (l.length + k) old 5 - (l.length + k))) 5)) B
        (.slice (some ⟨w.heap.size, 0, none⟩) (l.length + k) (grownCap w (l.length + k) old 5)) (l ++ List.replicate k 0) := by
    intro old row ho
    have hge := grownCap_ge w (l.length + k) old 5
    have hcm : grownCap w (l.length + k) old 5 ≤ maxLen := grownCap_le_maxLen w _ old 5 (by unfold maxLen; omega)
    have hlen : (l ++ List.replicate k (0 : UInt8)).length = l.length + k := by simp
    unfold OwnB
    rw [hlen]
    refine ⟨by simp, .inr ⟨w.heap.size, _, _, rfl, hB, heap_alloc_new w.drew _, hge, hcm, ?_, ?_⟩⟩
    · rw [zeroCells_bytes, zeroCells_bytes]; simp; omega
    · rw [zeroCells_bytes, zeroCells_bytes]
      simp only [Array.toList_append]
      rw [List.take_append_of_le_length (by simp)]
      rw [List.take_of_length_le (by simp)]
      simp
  by_cases hk0 : k = 0
  · subst hk0
    refine ⟨v, w, ?_, by simpa using hown, Mod.refl _ _⟩
    obtain ⟨a, cap, rfl, hle, _, _⟩ := hown.shape
    have hlc : l.length ≤ cap := hle
    have hw0 : IntKind.i64.wrap 0 = 0 := by decide
    cases a with
    | none => simp [Builtin.append_, run_underlying Try.underlying22, run_underlying h3, sizeOf, typeInfo, hi, asInt, asIntOf, hw0, hlc]
    | some ad =>
      simp [Builtin.append_, run_underlying Try.underlying22, run_underlying h3, sizeOf, typeInfo, hi, asInt, asIntOf, hw0, hlc, storeCells]
  · rcases hown.2 with ⟨rfl, h0⟩ | ⟨g, cap, cur, rfl, hbg, hg, hnc, hcm, hcs, htake⟩
    · have hl : l = [] := List.eq_nil_of_length_eq_zero h0
      subst hl
      have hr := Lib.run_append_nil_zeros (P := Try.prog) w 22 3 ty 5 i _ .i64 .i64 Try.underlying22 h3 hi hz k (by omega) (by omega) (by omega) (by rw [hb1]; omega)
      have hgr := grown 0 none (by simp; omega)
      simp only [List.length_nil, Nat.zero_add, List.map_nil, List.nil_append] at hgr
      refine ⟨_, _, hr, ?_, ?_⟩
      · simpa using hgr
      · exact Mod.trans' (Mod.drew _ _) (Mod.alloc _ _ _)
    · by_cases hroom : l.length + k ≤ cap
      · -- there is room
        simp only [Nat.mul_one] at hcs htake
        have hst := run_storeCells_at Try.prog g l.length 5 ((List.replicate k (0 : UInt8)).map byteV) 0 cur w hg (by simp; omega) (bytes_oneCell _)
        simp only [Nat.add_zero] at hst
        have hw1 : IntKind.i64.wrap (k : Int) = k := by rw [IntKind.wrap_i64]; omega
        have hneg : ¬ ((k : Int) < 0) := by omega
        have h48i : ¬ (281474976710656 < (k : Int) * ((1 : Nat) : Int)) := by omega
        have hrun : (Builtin.append_ #[22, 3] ty #[.slice (some ⟨g, 0, none⟩) l.length cap, .int .i64 (k : Int)]).run Try.prog w =
            .ok (.slice (some ⟨g, 0, none⟩) (l.length + k) cap) (w.setRow g (cur.toList.take l.length ++ (List.replicate k (0 : UInt8)).map byteV ++ cur.toList.drop (l.length + ((List.replicate k (0 : UInt8)).map byteV).length)).toArray) := by
          have hadd : (⟨g, 0, none⟩ : Addr).add (l.length * 1) = ⟨g, l.length, none⟩ := by unfold Addr.add; split <;> simp_all
          have hzc := zeroCells_bytes k
          simp only [Value.cells] at hzc
          have hns : ¬ (k * 1 = 0) := by omega
          simp [Builtin.append_, run_underlying Try.underlying22, run_underlying h3, sizeOf, typeInfo, zeroValue, hi, hz, asInt, asIntOf, hw1, hneg, hs1, hb1, hk0, hroom, hzc, Value.cells, Addr.add_lit]
          rw [if_neg (by omega)]
          simp only [List.map_replicate, List.length_replicate] at hst
          rw [hst]
          simp
        refine ⟨_, _, hrun, ?_, Mod.setRow w g _ (by simp [Value.ownBlock])⟩
        have hlen : (l ++ List.replicate k (0 : UInt8)).length = l.length + k := by simp
        unfold OwnB
        rw [hlen]
        refine ⟨by simp, .inr ⟨g, cap, _, rfl, hbg, setRow_heap w g cur _ 5 _ hg, hroom, hcm, ?_, ?_⟩⟩
        · simp; omega
        · simp only [Nat.mul_one]
          rw [htake, List.take_append_of_le_length (by simp), List.take_of_length_le (by simp)]
          simp
      · have hold : (Builtin.firstCells i.size l.length (.slice (some ⟨g, 0, none⟩) l.length cap)).run Try.prog w.drew = .ok (l.map byteV).toArray w.drew := by
          refine run_firstCells_some _ _ _ _ _ _ _ (by simp [hs1]) ?_
          intro j u hu
          exact World.ownsRow.cells hown (g := g) rfl j u hu
        have hr := Lib.run_append_grow_zeros (P := Try.prog) w 22 3 ty 5 i _ .i64 .i64 Try.underlying22 h3 hi hz (some ⟨g, 0, none⟩) l.length cap (l.map byteV) hold k (by omega) (by omega) (by omega) (by omega) (by rw [hb1]; omega)
          (by rw [hb1]; exact growslice_fits (by omega) (by omega))
        exact ⟨_, _, hr, grown cap none (by omega), Mod.trans' (Mod.drew _ _) (Mod.alloc _ _ _)⟩

theorem appZ {w : World} {ops : Array Oper} {rest : List Oper} {o : Oper} {a : Act} {Q : Exit → Act → World → Prop} (hgd : o.guard = none) (s x : Operand) (ho : o.op = .call { callee := .builtin .append, args := #[s, x], argTypes := #[22, 3] })
    (B : Nat) (v : Value) (l : List UInt8) (hs : a.eval s = v) (hown : OwnB w B v l) (k : Nat) (hx : a.eval x = .int .i64 (k : Int)) (hk : l.length + k ≤ 140737488355328) (hB : B ≤ w.heap.size)
    (h : ∀ v' w', OwnB w' B v' (l ++ List.replicate k 0) → Mod (fun j => some j = v.ownBlock) w w' → wpList Try.prog ops Q rest (a.put o.dst v') w') :
    wpList Try.prog ops Q (o :: rest) a w := by
  obtain ⟨v', w', hr, h1, h2⟩ := run_append_zeros w o.type B v l hown k hk hB
  exact Lib.wpList_append_run w hgd s x 22 3 ho v _ hs hx v' w' hr (h v' w' h1 h2)
end Go.Proofs.Ytdinnkacilgmmaa
