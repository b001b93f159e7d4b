/- The pager: get, sealed, opened. -/
import Derived.Test.YtdinnkacilgmmaaPag0
namespace Go.Proofs.Ytdinnkacilgmmaa
open Go.RowKit

def accB (l : List UInt8) (pre : List Nat) : Nat := pre.foldl (fun n k => n * 256 + (l.getD (l.length - 1 - k) 0).toNat) 0
theorem accB_snoc (l : List UInt8) (pre : List Nat) (x : Nat) : accB l (pre ++ [x]) = accB l pre * 256 + (l.getD (l.length - 1 - x) 0).toNat := by simp [accB]
theorem accB_lt (l : List UInt8) (pre : List Nat) : accB l pre < 256 ^ pre.length := by
  have key : ∀ (n : Nat) (p : List Nat), p.length = n → accB l p < 256 ^ n := by
    intro n
    induction n with
    | zero => intro p hp; rw [List.eq_nil_of_length_eq_zero hp]; simp [accB]
    | succ n ih =>
      intro p hp
      rcases List.eq_nil_or_concat p with e | ⟨q, x, e⟩
      · subst e; simp at hp
      · rw [List.concat_eq_append] at e; subst e
        have := ih q (by simpa using hp)
        have hc := (l.getD (l.length - 1 - x) 0).toNat_lt
        rw [accB_snoc, Nat.pow_succ]
        omega
  exact key _ pre rfl
theorem unle_drop (l : List UInt8) (i : Nat) (h : i < l.length) : unle (l.drop i) = l[i].toNat + 256 * unle (l.drop (i + 1)) := by
  rw [List.drop_eq_getElem_cons h]; rfl
theorem accB_range (l : List UInt8) : ∀ k, k ≤ l.length → accB l (List.range k) = unle (l.drop (l.length - k)) := by
  intro k
  induction k with
  | zero => intro _; rw [Nat.sub_zero, List.drop_length]; rfl
  | succ k ih =>
    intro h
    rw [List.range_succ, accB_snoc, ih (by omega), unle_drop l (l.length - (k + 1)) (by omega)]
    rw [show l.length - 1 - k = l.length - (k + 1) by omega, show l.length - (k + 1) + 1 = l.length - k by omega, List.getD_eq_getElem?_getD, List.getElem?_eq_getElem (by omega), Option.getD_some]
    omega
theorem or_step (x c : Nat) (hx : x < 72057594037927936) (hc : c < 256) : bits .or .u64 ((x : Int) * 256) (c : Int) = ((x * 256 + c : Nat) : Int) := by
  have e : (x : Int) * 256 = ((x * 256 : Nat) : Int) := by omega
  rw [e, bits_or_u64 _ _ (by omega) (by omega)]
  congr 1
  have := Nat.two_pow_add_eq_or_of_lt (i := 8) (b := c) (by omega) x
  rw [show (2 : Nat) ^ 8 * x = x * 256 by omega] at this
  exact this.symm

/-- behind some bytes -/
structure GI (w : World) (a : Option Addr) (l : List UInt8) (cap : Nat) (pre : List Nat) (W : World) : Prop where
  b0 : Boxed W w.heap.size 142 (.int .u64 (accB l pre : Int))
  b1 : Boxed W (w.heap.size + 1) 22 (.slice a l.length cap)
  by_ : BytesAt W a l
  m : Mod (fun _ => False) w W

theorem GI.own {w : World} {a : Option Addr} {l : List UInt8} {cap : Nat} (hb : BytesAt w a l) : OwnFrom (w.heap.size + 2) (GI w a l cap) := fun s W W' row h hg hr => by
  have hm : Mod (fun k => some k = row) W W' := Mod.grown hg
  have key : ∀ {k : Nat} {o : Obj}, k < w.heap.size + 2 → W.heap[k]? = some o → W'.heap[k]? = some o := fun {k o} hk ho => hm.obj ho (fun e => by have := (hr k e.symm).1; omega)
  have hm' : Mod (fun _ => False) w W' := h.m.trans hm (fun k hk e => by have := (hr k e.symm).1; omega)
  exact ⟨key (by omega) h.b0, key (by omega) h.b1, hb.mod hm' (fun _ _ _ => id), hm'⟩

theorem backward_seq (B1 : Nat) (a : Option Addr) (l : List UInt8) (cap : Nat) (hL : l.length ≤ 1048576) (w : World) (hB1 : Boxed w B1 22 (.slice a l.length cap)) (hb : BytesAt w a l) :
    SeqStopsK Fence.wide 4 Try.prog 144 #[.pointer (some ⟨B1, 0, none⟩)] (backV l) (KeepsB B1 a l) (fun ys => ys = List.range l.length) (fun pre => ∃ k, k ≤ l.length ∧ pre = List.range k) l.length w :=
  fun lp J Jx W hW _ _ hY h0 => backward_in Fence.wide 4 trivial rfl (by decide) lp B1 a l cap hL J Jx hY W
    ((hW.cell (p := ⟨B1, 0, none⟩) (lt_of_block hB1)).trans hB1.cell) (hb.fresh hW) h0

attribute [local go_sem] Oper.semAt_some

set_option maxHeartbeats 1000000 in
set_option maxRecDepth 100000 in
theorem get_any (w : World) (a : Option Addr) (l : List UInt8) (n cap : Nat) (hn : l.length = n) (hb : BytesAt w a l) (hl : l.length ≤ 8) :
    Calls Try.prog 128 #[.slice a n cap] w fun e w' => e = .returned (.int .u64 (unle l : Int)) ∧ Mod (fun _ => False) w w' := by
  subst hn
  refine callsIn_wide.1 (callsIn_of_wp_marks (F := Fence.wide) (n := 5) Try.func128 rfl trivial (wpIn_wide.2 ?_) rfl)
  simp only [Try.ntmps128, List.size_toArray, List.length_cons, List.length_nil, Nat.reduceAdd, Nat.reduceSub, Array.replicate_succ, Array.replicate_zero, List.push_toArray, List.append_toArray, List.nil_append, List.cons_append]
  go_wp2_with (go_at_call 141; refine (backward_any _ _ _ _).mono ?_; rintro e w' ⟨rfl, rfl⟩)
  obtain ⟨W2, hW2⟩ : ∃ W2, W2 = (w.alloc (Obj.cells #[Value.int IntKind.u64 0] 142)).alloc (Obj.cells #[Value.slice a l.length cap] 22) := ⟨_, rfl⟩
  rw [← hW2]
  have m2 : Mod (fun _ => False) w W2 := by rw [hW2]; exact (Mod.alloc _ _ _).trans' (Mod.alloc _ _ _)
  have z2 : W2.heap.size = w.heap.size + 2 := by rw [hW2]; simp
  have hI0 : GI w a l cap [] W2 := by
    refine ⟨?_, ?_, hb.mod m2 (fun _ _ _ => id), m2⟩
    · unfold Boxed; rw [hW2, Below.heap_alloc _ _ _ (by simp), heap_alloc_new]; rfl
    · unfold Boxed; rw [hW2]
      have := heap_alloc_new (w.alloc (Obj.cells #[Value.int IntKind.u64 0] 142)) (Obj.cells #[Value.slice a l.length cap] 22)
      simpa using this
  clear hW2
  have hsq := backward_seq (w.heap.size + 1) a l cap (by omega) W2 hI0.b1 hI0.by_
  have HI0 := Lib.hid hI0
  clear hI0
  refine (wpIn_wide (n := 5)).1 ?_
  refine wpIn_rangeFunc_ownF (F := Fence.wide) (n := 5) rfl (by decide) rfl trivial (fun _ _ => rfl) hsq (fun h k => ⟨k.1.trans h.1, fun hx => k.2 (h.2 hx)⟩) ?hKb (Below.refl _ _) (fun _ => rfl)
    (GI w a l cap) (fun _ _ _ => False) (by rw [z2]; exact GI.own hb) (fun _ _ _ _ _ h => h.elim) HI0.out ?a1 ?hassign ?hbody ?hdone ?hstop
  case hassign =>
    intro lp x W K hK
    unfold backV
    gi_wp2
    exact hK
  case hKb =>
    intro W lp o o' hlp ho hno _
    refine ⟨World.cell?_of_block (a := ⟨w.heap.size + 1, 0, none⟩) (World.putObj_heap_other (by show w.heap.size + 1 ≠ lp; omega)), fun hx => ?_⟩
    refine hx.mod ((Mod.grown (grownBy_putObj' W lp o')).mono (fun k _ e => Option.some.inj e) : Mod (fun k => k = lp) W (W.putObj lp o')) (fun y hy hne e => ?_)
    obtain ⟨b, off, e2, hc⟩ := hx hne
    rw [hy] at e2
    cases e2
    dsimp only at e
    subst e
    have := hc 0 (List.length_pos_iff.2 hne)
    unfold World.cell? at this
    rw [ho] at this
    cases o <;> simp_all [Obj.isCells]
  case hstop => exact fun _ _ _ _ _ _ h => h.elim
  case hbody =>
    intro lp pre x W hI hlen
    have x0 := hI.b0.cell
    have f0 := hI.b0.frozen
    have hlt := accB_lt l pre
    have hlt7 : 256 ^ pre.length ≤ 256 ^ 7 := Nat.pow_le_pow_right (by decide) (by omega)
    have hc := (l.getD (l.length - 1 - x) 0).toNat_lt
    have hor := or_step (accB l pre) (l.getD (l.length - 1 - x) 0).toNat (by omega) hc
    rw [← accB_snoc] at hor
    have hm : Mod (fun k => k = w.heap.size) W (W.setCell ⟨w.heap.size, 0, none⟩ (.int .u64 (accB l (pre ++ [x]) : Int))) := Mod.setCell _ _ _ rfl
    have hby : BytesAt (W.setCell ⟨w.heap.size, 0, none⟩ (.int .u64 (accB l (pre ++ [x]) : Int))) a l := hI.by_.mod hm (fun y hy hne e => by
      subst hy
      have := hb.lt hne
      omega)
    have hend : KeepsOthers W (W.setCell ⟨w.heap.size, 0, none⟩ (.int .u64 (accB l (pre ++ [x]) : Int))) ∧ KeepsB (w.heap.size + 1) a l W (W.setCell ⟨w.heap.size, 0, none⟩ (.int .u64 (accB l (pre ++ [x]) : Int))) ∧ GI w a l cap (pre ++ [x]) (W.setCell ⟨w.heap.size, 0, none⟩ (.int .u64 (accB l (pre ++ [x]) : Int))) := by
      have b1 : Boxed (W.setCell ⟨w.heap.size, 0, none⟩ (.int .u64 (accB l (pre ++ [x]) : Int))) (w.heap.size + 1) 22 (.slice a l.length cap) := hm.obj hI.b1 (by omega)
      exact ⟨KeepsOthers.setCell _ _ _, ⟨(Boxed.cell b1).trans (Boxed.cell hI.b1).symm, fun _ => hby⟩, Boxed.set _ hI.b0, b1, hby, hI.m.trans hm (fun k hk e => by omega)⟩
    have HEND := Lib.hid hend
    rw [List.getD_eq_getElem?_getD] at hor hc
    have hwc : IntKind.u64.wrap ((l[l.length - 1 - x]?.getD 0).toNat : Int) = ((l[l.length - 1 - x]?.getD 0).toNat : Int) := IntWalk.u64_in _ (by omega)
    have HOR := Lib.hid hor
    have hacc : (accB l pre : Int) < 72057594037927936 := by omega
    clear hend hor hby hm hlt hlt7 hsq
    generalize accB l pre = A at *
    generalize accB l (pre ++ [x]) = A2 at *
    generalize (l[l.length - 1 - x]?.getD 0) = c at *
    gi_wp2
    rw [HOR.out]
    exact HEND.out
  case hdone =>
    intro D0 xs W hD0 hxs hI hdef
    have x0 := hI.b0.cell
    have hv : accB l xs = unle l := by rw [hxs, accB_range l _ (Nat.le_refl _), Nat.sub_self]; rfl
    rw [hv] at x0
    have hm := hI.m
    clear hI HI0 hsq
    go_wp2
    refine ⟨by simp, .inl ⟨_, _, rfl, run_takeDeferred hdef, ?_⟩⟩
    refine ⟨_, results_tmp rfl _ _ _, rfl, hm.trans ((Mod.grown (grownBy_putObj' W D0 _)).mono (fun k _ e => Option.some.inj e) : Mod (fun k => k = D0) W _) (fun k hk e => by omega)⟩
end Go.Proofs.Ytdinnkacilgmmaa
