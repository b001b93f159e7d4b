/- From a walk to a row: how the arguments of the statements are read. -/
import Derived.Test.YtdinnkacilgmmaaMem
import Derived.ProofKit
import Derived.OpenShut
import Derived.ShutString
import Derived.ChangeOld
import Derived.SizedLaws
namespace Go.Proofs.Ytdinnkacilgmmaa
open Go.ChangeShapes Go.WideShapes Go.ChangeAt Go.RowKit
open Go.ChangeMaps (open_string shut_string)

theorem own : ownKnob Try.prog.godebug = none := by kernel_rfl
theorem laidOut : laidOutB Try.prog = true := by kernel_rfl
theorem cells5 : Try.prog.cellsOf 5 = 1 := by kernel_rfl
theorem bytes5 : Try.prog.bytesOf 5 = 1 := by kernel_rfl

/-- a byte that fits, as a byte -/
theorem byte_of_wf {n : Int} (h : (Lit.int .u8 n).wf = true) : Value.int .u8 n = byteV (UInt8.ofNat n.toNat) := by
  have hb := bounds_u8 h
  have e : (UInt8.ofNat n.toNat).toNat = n.toNat := by
    rw [UInt8.toNat_ofNat']; omega
  show Value.int .u8 n = Value.int .u8 _
  rw [e]
  congr 1
  omega

/-- a slice of bytes that came in -/
def RdB (W : World) (v : Value) (l : List UInt8) : Prop :=
  ∃ a cap, v = .slice a l.length cap ∧ BytesAt W a l ∧ (a = none → cap = 0) ∧ l.length ≤ 140737488351232 ∧ l.length ≤ cap

section
variable {H : Type} {enc : TypeId × Value → H} {W : World}

theorem add_none_spot {x : Addr} {i : Nat} {v : Value} (h : W.cell? (x.add i) = some v) (hi : 0 < i ∨ x.spot = none) : (x.add i) = ⟨x.block, x.off + i, none⟩ := by
  unfold Addr.add
  split
  · rename_i e
    subst e
    rcases hi with hi | hi
    · omega
    · cases x; simp_all
  · rfl

theorem bytesAt_ints {x : Addr} {zs : List Int} {len : Nat} (hl : len ≤ zs.length) (hc : ∀ i, i < zs.length → W.cell? (x.add i) = some (.int .u8 (zs.getD i 0))) (hw : ∀ n ∈ zs, (Lit.int .u8 n).wf = true) :
    BytesAt W (some x) ((zs.take len).map fun n => UInt8.ofNat n.toNat) := by
  intro hne
  have hlen : 0 < len := by
    rcases Nat.eq_zero_or_pos len with h | h
    · subst h; simp at hne
    · exact h
  have h0 := hc 0 (by omega)
  have hs : x.spot = none := by simpa [Addr.add] using World.cell?_spot h0
  refine ⟨x.block, x.off, by cases x; simp_all, fun j hj => ?_⟩
  have hj' : j < len := by simp at hj; omega
  have h1 := hc j (by omega)
  rw [add_none_spot h1 (.inr hs)] at h1
  rw [h1]
  have hz : zs.getD j 0 = zs[j] := by simp [show j < zs.length by omega]
  rw [hz, byte_of_wf (hw _ (List.getElem_mem _))]
  simp

theorem rd_bytes {v : Value} {d : DataW H} {p : List MemPlace} (hv : ∃ a len cap, v = .slice a len cap) (h : DataW.Trod enc Try.prog W 0 (fun _ => true) true 22 v d p) (hw : ∀ n ∈ d.weights Try.prog 22, n ≤ reachBytes) : ∃ l, RdB W v l := by
  obtain ⟨a, len, cap, rfl⟩ := hv
  obtain ⟨fuel, hf⟩ := h
  rcases open_ints Try.underlying22 Try.underlying5 cells5 hf with ⟨hcs, _⟩ | ⟨x, l, c, zs, hcs, _, hl, hm, hz, hx, hcell, hwz⟩
  · simp [Value.cells] at hcs
    obtain ⟨rfl, rfl, rfl⟩ := hcs
    exact ⟨[], none, 0, rfl, BytesAt.nil _ _, fun _ => rfl, by simp, by simp⟩
  · simp [Value.cells] at hcs
    obtain ⟨rfl, rfl, rfl⟩ := hcs
    simp at hz
    refine ⟨(zs.take len).map fun n => UInt8.ofNat n.toNat, some x, cap, by simp [hz, Nat.min_eq_left hl], bytesAt_ints (by omega) hcell hwz, (fun e => by cases e), ?_, by simp; omega⟩
    have e := congrArg Prod.fst hx
    simp only at e
    subst e
    simp only [DataW.weights, Try.underlying22] at hw
    have := hw _ List.mem_cons_self
    rw [bytes5] at this
    simp [lits, reachBytes] at this ⊢
    omega

theorem weights_of {ts : List TypeId} {ds : List (DataW H)} {j : Nat} {t : TypeId} {d : DataW H} (h : (DataW.weightsEach Try.prog ts ds).all (· ≤ reachBytes) = true) (ht : ts[j]? = some t) (hd : ds[j]? = some d) : ∀ n ∈ d.weights Try.prog t, n ≤ reachBytes := by
  intro n hn
  have := List.all_eq_true.1 h n (DataW.weights_mem_each ht hd n hn)
  simpa using this

theorem trod_lt' {t : TypeId} {v : Value} {d : DataW H} {p : List MemPlace} (h : DataW.Trod enc Try.prog W 0 (fun _ => true) true t v d p) : ∀ x ∈ p, x.block < W.heap.size := by
  obtain ⟨m, hm⟩ := h; exact DataW.trod_lt m _ _ _ hm
end
end Go.Proofs.Ytdinnkacilgmmaa
