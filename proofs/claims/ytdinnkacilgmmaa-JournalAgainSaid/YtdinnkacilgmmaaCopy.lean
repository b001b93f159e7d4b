/- The walk of Copy. -/
import Derived.Test.YtdinnkacilgmmaaScript
import Derived.Test.YtdinnkacilgmmaaOrd
namespace Go.Proofs.Ytdinnkacilgmmaa
open Go.RowKit

theorem OwnC.made (w : World) (B : Nat) (hB : B ≤ w.heap.size) : OwnC (w.alloc (.cells #[] 132)) B (.slice (some ⟨w.heap.size, 0, none⟩) 0 0) [] := by
  have h := World.ownsRow_lit (w := w) (base := B) (e := 132) (size := chgSize) #[] 0 hB (by decide) (by simp)
  exact h

theorem OwnC.weaken {w : World} {B B' : Nat} {v : Value} {l} (h : OwnC w B' v l) (hB : B ≤ B') : OwnC w B v l := by
  refine ⟨h.1, ?_⟩
  rcases h.2 with hn | ⟨g, cap, cur, rfl, hb, rest⟩
  · exact .inl hn
  · exact .inr ⟨g, cap, cur, rfl, Nat.le_trans hB hb, rest⟩

set_option maxRecDepth 100000 in
/-- slices.Clone of writes -/
theorem clonec_any {w : World} {B : Nat} {v : Value} {l : List (Nat × List UInt8)} (h : OwnC w B v l) (h256 : ∀ x ∈ l, x.2.length = 256) (hlim : l.length ≤ 1048576) (C : Nat) (hC : C ≤ w.heap.size) :
    Calls Try.prog 88 #[v] w fun e w' => ∃ v', e = .returned v' ∧ OwnC w' C v' l ∧ Mod (fun _ => False) w w' ∧ (∀ k, v'.ownBlock = some k → w.heap.size ≤ k) := by
  have kn : ∀ (w : World) (a : Option Addr) (n c : Nat), (binOp .eql 127 (.slice a n c) (.slice none 0 0)).run Try.prog w = .ok (.bool a.isNone) w := fun w a n c => Lib.run_eql_slice_nil w 127 132 a n c 0 0 Try.underlying127
  rcases h.2 with ⟨rfl, h0⟩ | ⟨g, cap, cur, rfl, -⟩
  · have e := List.eq_nil_of_length_eq_zero h0
    subst e
    go_enter Try.func88, Try.ntmps88
    go_wp2
    go_ret
    exact ⟨_, rfl, OwnC.nil _ _, Mod.refl _ _, by simp [Value.ownBlock]⟩
  · have hcells : ∀ (j : Nat) u, (chgs l)[j]? = some u → (w.alloc (.cells #[] 132)).cell? ((⟨g, 0, none⟩ : Addr).add j) = some u := fun j u hu => by
      have hc := World.ownsRow.cells h (g := g) rfl j u hu
      rw [World.cell?_alloc_lt _ _ _ (World.block_lt_of_cell? _ _ hc)]
      exact hc
    have HC := Lib.hid hcells
    clear hcells
    go_enter Try.func88, Try.ntmps88
    go_wp2_with (first
      | (at_builtin; refine appC rfl _ _ rfl w.heap.size (.slice (some ⟨w.heap.size, 0, none⟩) 0 0) [] rfl (OwnC.made w _ (Nat.le_refl _)) ⟨g, 0, none⟩ _ _ l rfl rfl h256 HC.out (by simp; omega) (by simp) ?_; intro v1 w1 hown1 hmod1 _; rw [List.nil_append] at hown1))
    go_ret
    refine ⟨_, rfl, hown1.weaken hC, (Mod.alloc (fun _ => False) w _).trans hmod1 ?_, fun k hk => (World.ownsRow.lt hown1 k hk).1⟩
    intro i hi h
    simp [Value.ownBlock] at h
    omega

/-- what has been made of a copy -/
structure CpQ (W0 : World) (H B : Nat) (D : Dsk) (x1 x2 x3 : Option Value) (w : World) : Prop where
  mod : Mod (fun _ => False) W0 w
  p1 : ∀ v, x1 = some v → OwnB w B v D.safe ∧ ∀ k, v.ownBlock = some k → H ≤ k
  p2 : ∀ v, x2 = some v → OwnB w B v D.now ∧ ∀ k, v.ownBlock = some k → H ≤ k
  p3 : ∀ v, x3 = some v → OwnC w B v D.l ∧ ∀ k, v.ownBlock = some k → H ≤ k
  ap : ∀ v v', x1 = some v → x2 = some v' → ∀ k, v.ownBlock = some k → v'.ownBlock ≠ some k

section
variable {W0 w : World} {H B : Nat} {D : Dsk} {x1 x2 x3 : Option Value}
theorem CpQ.drew (Q : CpQ W0 H B D x1 x2 x3 w) : CpQ W0 H B D x1 x2 x3 w.drew :=
  have m : Mod (fun _ => False) w w.drew := Mod.drew _ _
  ⟨Q.mod.trans' m, fun v h => ⟨(Q.p1 v h).1.mod m (fun _ _ => id), (Q.p1 v h).2⟩, fun v h => ⟨(Q.p2 v h).1.mod m (fun _ _ => id), (Q.p2 v h).2⟩, fun v h => ⟨(Q.p3 v h).1.mod m (fun _ _ => id), (Q.p3 v h).2⟩, Q.ap⟩

theorem CpQ.safe (Q : CpQ W0 H B D none x2 x3 w) (hH : H ≤ W0.heap.size) (hB : B ≤ W0.heap.size) {a : Option Addr} {cap : Nat} (ho : OwnB W0 B (.slice a D.safe.length cap) D.safe) (hwf : D.wf) :
    Calls Try.prog 86 #[.slice a D.safe.length cap] w fun e w' => ∃ v, e = .returned v ∧ CpQ W0 H B D (some v) x2 x3 w' := by
  have hs := Q.mod.size
  have hb := hwf.bound
  have hp := hwf.pos'
  have ho' := ho.mod Q.mod (fun _ _ => id)
  obtain ⟨g, cap', cur, e, -⟩ := ho'.row (by intro e; rw [e] at hp; simp at hp)
  cases e
  have hbs := (OwnB.bytes ho').2
  refine (clone_any _ D.safe _ w B (by omega) (by omega) (fun e => by cases e) hbs).mono fun e w' ⟨v, he, hv, hm, hn⟩ => ⟨v, he, Q.mod.trans' hm, fun u hu => ?_, fun u hu => ?_, fun u hu => ?_, fun u u' hu hu' k hk hk' => ?_⟩
  · cases hu; exact ⟨hv, fun k hk => by have := hn k hk; omega⟩
  · exact ⟨(Q.p2 u hu).1.mod hm (fun _ _ => id), (Q.p2 u hu).2⟩
  · exact ⟨(Q.p3 u hu).1.mod hm (fun _ _ => id), (Q.p3 u hu).2⟩
  · cases hu
    have := hn k hk
    have := (World.ownsRow.lt (Q.p2 u' hu').1 k hk').2
    omega

theorem CpQ.now (Q : CpQ W0 H B D x1 none x3 w) (hH : H ≤ W0.heap.size) (hB : B ≤ W0.heap.size) {a : Option Addr} {cap : Nat} (ho : OwnB W0 B (.slice a D.now.length cap) D.now) (hwf : D.wf) :
    Calls Try.prog 86 #[.slice a D.now.length cap] w fun e w' => ∃ v, e = .returned v ∧ CpQ W0 H B D x1 (some v) x3 w' := by
  have hs := Q.mod.size
  have hb := hwf.bound
  have hp := hwf.pos'
  have hnn := hwf.now
  have ho' := ho.mod Q.mod (fun _ _ => id)
  obtain ⟨g, cap', cur, e, -⟩ := ho'.row (by intro e; rw [e] at hnn; simp at hnn; omega)
  cases e
  have hbs := (OwnB.bytes ho').2
  refine (clone_any _ D.now _ w B (by omega) (by omega) (fun e => by cases e) hbs).mono fun e w' ⟨v, he, hv, hm, hn⟩ => ⟨v, he, Q.mod.trans' hm, fun u hu => ?_, fun u hu => ?_, fun u hu => ?_, fun u u' hu hu' k hk hk' => ?_⟩
  · exact ⟨(Q.p1 u hu).1.mod hm (fun _ _ => id), (Q.p1 u hu).2⟩
  · cases hu; exact ⟨hv, fun k hk => by have := hn k hk; omega⟩
  · exact ⟨(Q.p3 u hu).1.mod hm (fun _ _ => id), (Q.p3 u hu).2⟩
  · cases hu'
    have := hn k hk'
    have := (World.ownsRow.lt (Q.p1 u hu).1 k hk).2
    omega

theorem CpQ.last (Q : CpQ W0 H B D x1 x2 none w) (hH : H ≤ W0.heap.size) (hB : B ≤ W0.heap.size) {v0 : Value} (ho : OwnC W0 B v0 D.l) (hwf : D.wf) (hlim : D.l.length ≤ 1048576) :
    Calls Try.prog 88 #[v0] w fun e w' => ∃ v, e = .returned v ∧ CpQ W0 H B D x1 x2 (some v) w' := by
  have hs := Q.mod.size
  have ho' := ho.mod Q.mod (fun _ _ => id)
  refine (clonec_any ho' (fun x hx => (hwf.l x hx).2) hlim B (by omega)).mono fun e w' ⟨v, he, hv, hm, hn⟩ => ⟨v, he, Q.mod.trans' hm, fun u hu => ?_, fun u hu => ?_, fun u hu => ?_, Q.ap⟩
  · exact ⟨(Q.p1 u hu).1.mod hm (fun _ _ => id), (Q.p1 u hu).2⟩
  · exact ⟨(Q.p2 u hu).1.mod hm (fun _ _ => id), (Q.p2 u hu).2⟩
  · cases hu; exact ⟨hv, fun k hk => by have := hn k hk; omega⟩
end

/-- a copy's block, behind its three stores -/
theorem copy_end {w W0 w3 : World} {B p : Nat} {vs vn vl v1 v2 v3 u1 u2 u3 : Value} {D : Dsk} (h : DiskV w B p vs vn vl D) (hB : B ≤ w.heap.size) (m0 : Mod (fun _ => False) w W0)
    (hat : W0.heap[w.heap.size]? = some (.cells #[u1, u2, u3, .bool D.bad, .bool D.full, .bool D.gone] 129 (0, 0))) (Q : CpQ W0 (w.heap.size + 1) B D (some v1) (some v2) (some v3) w3) :
    Born w B (.pointer (some ⟨w.heap.size, 0, none⟩)) D (((w3.setCell ⟨w.heap.size, 0, none⟩ v1).setCell ⟨w.heap.size, 1, none⟩ v2).setCell ⟨w.heap.size, 2, none⟩ v3) := by
  have hat3 := Q.mod.obj hat id
  have a1 := setCell_block (i := 0) hat3 v1
  have a2 := setCell_block (i := 1) a1 v2
  have a3 := setCell_block (i := 2) a2 v3
  have m : Mod (fun k => k = w.heap.size) w3 (((w3.setCell ⟨w.heap.size, 0, none⟩ v1).setCell ⟨w.heap.size, 1, none⟩ v2).setCell ⟨w.heap.size, 2, none⟩ v3) :=
    ((Mod.setCell (F := fun k => k = w.heap.size) w3 _ v1 rfl).trans' (Mod.setCell (F := fun k => k = w.heap.size) _ _ v2 rfl)).trans' (Mod.setCell (F := fun k => k = w.heap.size) _ _ v3 rfl)
  generalize ((w3.setCell ⟨w.heap.size, 0, none⟩ v1).setCell ⟨w.heap.size, 1, none⟩ v2).setCell ⟨w.heap.size, 2, none⟩ v3 = w4 at *
  obtain ⟨o1, f1⟩ := Q.p1 v1 rfl
  obtain ⟨o2, f2⟩ := Q.p2 v2 rfl
  obtain ⟨o3, f3⟩ := Q.p3 v3 rfl
  refine ⟨w.heap.size, _, rfl, ⟨v1, v2, v3, ⟨h.wf, by simpa using a3, hB, o1.mod m ?_, o2.mod m ?_, o3.mod m ?_, ?_⟩, rfl⟩, ?_, ?_⟩
  · intro k hk e
    have := f1 k hk
    omega
  · intro k hk e
    have := f2 k hk
    omega
  · intro k hk e
    have := f3 k hk
    omega
  · intro e
    have hp := h.wf.pos'
    obtain ⟨g, _, _, e1, -⟩ := o1.row (by intro e; rw [e] at hp; simp at hp)
    have hg : v1.ownBlock = some g := by rw [e1]; rfl
    exact Q.ap v1 v2 rfl rfl g hg (by rw [← e, hg])
  · refine ((m0.trans' Q.mod).mono (fun _ _ e => e)).trans m ?_
    intro i hi e
    omega
  · rintro k (e | e | e | e)
    · omega
    · have := f1 k e.symm; omega
    · have := f2 k e.symm; omega
    · have := f3 k e.symm; omega

set_option maxHeartbeats 1000000 in
set_option maxRecDepth 100000 in
theorem copy_any {w : World} {B p : Nat} {vs vn vl : Value} {D : Dsk} (h : DiskV w B p vs vn vl D) (hB : B ≤ w.heap.size) (hlim : D.l.length ≤ 1048576) :
    Calls Try.prog 44 #[.pointer (some ⟨p, 0, none⟩)] w fun e w' => ∃ v, e = .returned v ∧ Born w B v D w' := by
  have h0 := h
  obtain ⟨c0, c1, c2, c3, c4, c5⟩ := h.cell
  obtain ⟨a1, cs, es, -, -, hbs⟩ := h.safe.shape
  obtain ⟨a2, cn, en, -, -, hbn⟩ := h.now.shape
  obtain ⟨a3, cl, el, -, -⟩ := h.l.shape
  subst es en el
  obtain ⟨W0, hW⟩ : ∃ W0, W0 = w.alloc (.cells #[.slice a1 D.safe.length cs, .slice a2 D.now.length cn, .slice a3 D.l.length cl, .bool D.bad, .bool D.full, .bool D.gone] 129) := ⟨_, rfl⟩
  have m0 : Mod (fun _ => False) w W0 := by rw [hW]; exact Mod.alloc _ _ _
  have hat : W0.heap[w.heap.size]? = some (.cells #[.slice a1 D.safe.length cs, .slice a2 D.now.length cn, .slice a3 D.l.length cl, .bool D.bad, .bool D.full, .bool D.gone] 129 (0, 0)) := by rw [hW]; exact heap_alloc_new w _
  have hsz : W0.heap.size = w.heap.size + 1 := by rw [hW]; simp
  have hd := h.mod m0 (fun _ _ => id)
  have Q0 : CpQ W0 (w.heap.size + 1) B D none none none W0 := ⟨Mod.refl _ _, by simp, by simp, by simp, by simp⟩
  have hpg : p ≠ w.heap.size := by have := (h.lt p foot_p).2; omega
  have hH : w.heap.size + 1 ≤ W0.heap.size := by omega
  have hB0 : B ≤ W0.heap.size := by omega
  have kS : ∀ x1 x2 x3 w', CpQ W0 (w.heap.size + 1) B D x1 x2 x3 w' → (w'.cell? ⟨p, 0, none⟩ = some (.slice a1 D.safe.length cs) ∧ w'.cell? ⟨p, 1, none⟩ = some (.slice a2 D.now.length cn) ∧ w'.cell? ⟨p, 2, none⟩ = some (.slice a3 D.l.length cl)) := by
    intro x1 x2 x3 w' Q
    obtain ⟨d0, d1, d2, -⟩ := hd.cell
    exact ⟨Q.mod.cell' d0 id, Q.mod.cell' d1 id, Q.mod.cell' d2 id⟩
  have kG : ∀ x1 x2 x3 w', CpQ W0 (w.heap.size + 1) B D x1 x2 x3 w' → w'.heap[w.heap.size]? = some (.cells #[.slice a1 D.safe.length cs, .slice a2 D.now.length cn, .slice a3 D.l.length cl, .bool D.bad, .bool D.full, .bool D.gone] 129 (0, 0)) := fun _ _ _ _ Q => Q.mod.obj hat id
  have k1 : ∀ x2 x3 w', CpQ W0 (w.heap.size + 1) B D none x2 x3 w' → Calls Try.prog 86 #[.slice a1 D.safe.length cs] w' fun e w'' => ∃ v, e = .returned v ∧ CpQ W0 (w.heap.size + 1) B D (some v) x2 x3 w'' := fun _ _ _ Q => Q.safe hH hB0 hd.safe h.wf
  have k2 : ∀ x1 x3 w', CpQ W0 (w.heap.size + 1) B D x1 none x3 w' → Calls Try.prog 86 #[.slice a2 D.now.length cn] w' fun e w'' => ∃ v, e = .returned v ∧ CpQ W0 (w.heap.size + 1) B D x1 (some v) x3 w'' := fun _ _ _ Q => Q.now hH hB0 hd.now h.wf
  have k3 : ∀ x1 x2 w', CpQ W0 (w.heap.size + 1) B D x1 x2 none w' → Calls Try.prog 88 #[.slice a3 D.l.length cl] w' fun e w'' => ∃ v, e = .returned v ∧ CpQ W0 (w.heap.size + 1) B D x1 x2 (some v) w'' := fun _ _ _ Q => Q.last hH hB0 hd.l h.wf hlim
  have kE : ∀ v1 v2 v3 w3, CpQ W0 (w.heap.size + 1) B D (some v1) (some v2) (some v3) w3 → Born w B (.pointer (some ⟨w.heap.size, 0, none⟩)) D (((w3.setCell ⟨w.heap.size, 0, none⟩ v1).setCell ⟨w.heap.size, 1, none⟩ v2).setCell ⟨w.heap.size, 2, none⟩ v3) := fun _ _ _ _ Q => copy_end h0 hB m0 hat Q
  have KS := Lib.hid kS
  have KG := Lib.hid kG
  have K1 := Lib.hid k1
  have K2 := Lib.hid k2
  have K3 := Lib.hid k3
  have KE := Lib.hid kE
  clear kS kG k1 k2 k3 kE
  go_enter Try.func44, Try.ntmps44
  go_upto_region 4 with fail
  rw [← hW]
  have Q := Q0.drew
  clear hW hat hd h h0 hbs hbn hlim hH hB0 m0 Q0 c0 c1 c2 c3 c4 c5
  go_region_held3 (fun w' => w'.cell? ⟨p, 0, none⟩ = some (.slice a1 D.safe.length cs) ∧ w'.cell? ⟨p, 1, none⟩ = some (.slice a2 D.now.length cn) ∧ w'.cell? ⟨p, 2, none⟩ = some (.slice a3 D.l.length cl))
    (first
      | exact KS.out _ _ _ _ (by assumption)
      | (refine ⟨?_, ?_, ?_⟩ <;> (repeat (with_reducible refine (Mod.setCell (F := fun k => k = w.heap.size) _ _ _ rfl).cell' ?_ hpg)) <;> first | exact (KS.out _ _ _ _ (by assumption)).1 | exact (KS.out _ _ _ _ (by assumption)).2.1 | exact (KS.out _ _ _ _ (by assumption)).2.2))
    (first
      | (go_at_call 86; (with_reducible refine (K1.out _ _ _ (by assumption)).mono ?_); rintro e wa ⟨v1, rfl, Q⟩; obtain ⟨av1, cv1, e1, -⟩ := (Q.p1 _ rfl).1.shape; subst e1; have G := KG.out _ _ _ _ Q; have g0 := cell_of_row wa w.heap.size 0 _ 129 (0, 0) G; have g1 := cell_of_row wa w.heap.size 1 _ 129 (0, 0) G; have g2 := cell_of_row wa w.heap.size 2 _ 129 (0, 0) G; have t0 := thaw_of (i := 0) G; have t1 := thaw_of (i := 1) G; have t2 := thaw_of (i := 2) G)
      | (go_at_call 86; (with_reducible refine (K2.out _ _ _ (by assumption)).mono ?_); rintro e wa ⟨v2, rfl, Q⟩; obtain ⟨av2, cv2, e2, -⟩ := (Q.p2 _ rfl).1.shape; subst e2; have G := KG.out _ _ _ _ Q; have g0 := cell_of_row wa w.heap.size 0 _ 129 (0, 0) G; have g1 := cell_of_row wa w.heap.size 1 _ 129 (0, 0) G; have g2 := cell_of_row wa w.heap.size 2 _ 129 (0, 0) G; have t0 := thaw_of (i := 0) G; have t1 := thaw_of (i := 1) G; have t2 := thaw_of (i := 2) G)
      | (go_at_call 88; (with_reducible refine (K3.out _ _ _ (by assumption)).mono ?_); rintro e wa ⟨v3, rfl, Q⟩; obtain ⟨av3, cv3, e3, -⟩ := (Q.p3 _ rfl).1.shape; subst e3; have G := KG.out _ _ _ _ Q; have g0 := cell_of_row wa w.heap.size 0 _ 129 (0, 0) G; have g1 := cell_of_row wa w.heap.size 1 _ 129 (0, 0) G; have g2 := cell_of_row wa w.heap.size 2 _ 129 (0, 0) G; have t0 := thaw_of (i := 0) G; have t1 := thaw_of (i := 1) G; have t2 := thaw_of (i := 2) G))
  all_goals
    go_wp2_with fail
    go_ret
    exact ⟨_, rfl, KE.out _ _ _ _ (by assumption)⟩

theorem Apart.copy {w0 w : World} {B p : Nat} {Ts : List (Thg B)} {D : Dsk} (h : Apart w0 B Ts w) (i : Nat) (hi : Ts[i]? = some (DiskT B p D)) (hlim : D.l.length ≤ 1048576) :
    Calls Try.prog 44 #[.pointer (some ⟨p, 0, none⟩)] w fun e w' => ∃ q, e = .returned (.pointer (some ⟨q, 0, none⟩)) ∧ Apart w0 B (Ts ++ [DiskT B q D]) w' := by
  obtain ⟨F, hd⟩ := h.disk i hi
  obtain ⟨vs, vn, vl, hd, -⟩ := hd
  refine (copy_any hd h.le hlim).mono fun e w' ⟨v, he, hb⟩ => ?_
  obtain ⟨q, rfl, hs⟩ := h.born hb
  exact ⟨q, he, hs⟩
end Go.Proofs.Ytdinnkacilgmmaa
