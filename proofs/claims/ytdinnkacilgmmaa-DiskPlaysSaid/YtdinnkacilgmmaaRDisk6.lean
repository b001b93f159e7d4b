/- The reference's disk: Do, and its calls among other things. -/
import Derived.Test.YtdinnkacilgmmaaRDisk5
namespace Go.Proofs.Ytdinnkacilgmmaa
open Go.RowKit

section
variable {w : World} {B p : Nat} {D : Dsk} {F : Nat → Prop}

theorem RDiskAt.mod {G : Nat → Prop} {w' : World} (h : RDiskAt w B p D F) (hm : Mod G w w') (hF : ∀ k, F k → ¬ G k) : RDiskAt w' B p D F := by
  obtain ⟨vs, vl, xs, ys, h, rfl⟩ := h
  exact ⟨vs, vl, xs, ys, h.mod hm hF, rfl⟩
theorem RDiskAt.lt (h : RDiskAt w B p D F) : ∀ k, F k → B ≤ k ∧ k < w.heap.size := by
  obtain ⟨vs, vl, xs, ys, h, rfl⟩ := h
  exact h.lt
theorem RDiskAt.wf (h : RDiskAt w B p D F) : D.wf := by
  obtain ⟨vs, vl, xs, ys, h, rfl⟩ := h
  exact h.wf
theorem Left.pre {T : Thg B} {W w' : World} (m : Mod (fun _ => False) w W) (ht : Left T F W w') : Left T F w w' := by
  obtain ⟨m1, F', h, hF⟩ := ht
  refine ⟨(m.mono (fun _ _ e => e.elim)).trans m1 (fun _ _ e => e), F', h, fun k hk => ?_⟩
  rcases hF k hk with e | e
  · exact .inl e
  · exact .inr (Nat.le_trans m.size e)

theorem RDiskAt.write (h : RDiskAt w B p D F) (hlim : D.l.length + 1 ≤ 1048576) (n : Int) (a : Option Addr) (b : List UInt8) (cap : Nat) (hb : BytesAt w a b) (hm : b.length ≤ 140737488355328) :
    Calls Try.prog 90 #[.pointer (some ⟨p, 0, none⟩), .int .i64 n, .slice a b.length cap] w fun e w' => e = .returned (.int .i64 (D.why n b)) ∧ Left (RDiskT B p (D.write n b)) F w w' := by
  obtain ⟨vs, vl, xs, ys, h, rfl⟩ := h
  by_cases hw : D.why n b = 0
  · have hc := hw
    unfold Dsk.why at hc
    split at hc
    · exact absurd hc (by decide)
    split at hc
    · exact absurd hc (by decide)
    split at hc
    · exact absurd hc (by decide)
    split at hc
    · exact absurd hc (by decide)
    rename_i h1 h2 h3 h4
    obtain ⟨k, rfl⟩ : ∃ k : Nat, n = (k : Int) := ⟨n.toNat, by omega⟩
    have hwr : D.write (k : Int) b = { D with l := D.l ++ [(k, sect b)] } := by unfold Dsk.write; rw [if_pos hw, Int.toNat_natCast]
    rw [hw, hwr]
    exact rwrite_ok h k a b cap hb (by simpa using h1) (by omega) (by omega) (by simpa using h4) hlim
  · have hwr : D.write n b = D := by unfold Dsk.write; rw [if_neg hw]
    rw [hwr]
    refine (rwrite_no h n a b cap hm hw).mono ?_
    rintro e w' ⟨rfl, rfl⟩
    exact ⟨rfl, h.still⟩
theorem RDiskAt.sync (h : RDiskAt w B p D F) (hlim : D.l.length ≤ 1048576) : Calls Try.prog 91 #[.pointer (some ⟨p, 0, none⟩)] w fun e w' => e = .returned (.int .i64 D.whySync) ∧ Left (RDiskT B p D.sync) F w w' := by
  obtain ⟨vs, vl, xs, ys, h, rfl⟩ := h
  exact rsync_any h hlim
theorem RDiskAt.crash (h : RDiskAt w B p D F) (hlim : D.l.length ≤ 1048576) (a : Option Addr) (ks : List Int) (cap : Nat) (hk : IntsAt w a ks) (hkf : ∀ x, a = some x → ks ≠ [] → ¬ F x.block) (hm : ks.length ≤ 140737488355328) :
    Calls Try.prog 92 #[.pointer (some ⟨p, 0, none⟩), .slice a ks.length cap] w fun e w' => e = .returned (.tuple #[]) ∧ Left (RDiskT B p (D.crash ks)) F w w' := by
  obtain ⟨vs, vl, xs, ys, h, rfl⟩ := h
  exact rcrash_any h hlim a ks cap hk hkf hm
theorem RDiskAt.read (h : RDiskAt w B p D F) (n : Int) (C : Nat) (hC : C ≤ w.heap.size) (hlim : D.l.length ≤ 1048576) : Calls Try.prog 94 #[.pointer (some ⟨p, 0, none⟩), .int .i64 n] w fun e w' =>
    ∃ v, e = .returned (.tuple #[v, .int .i64 (D.wrong n)]) ∧ OwnB w' C v (if D.wrong n = 0 then sector D.now n.toNat else []) ∧ Mod (fun _ => False) w w' ∧ (∀ k, v.ownBlock = some k → w.heap.size ≤ k) := by
  obtain ⟨vs, vl, xs, ys, h, rfl⟩ := h
  exact rread_any h n C hC hlim
theorem RDiskAt.image (h : RDiskAt w B p D F) (C : Nat) (hC : C ≤ w.heap.size) : Calls Try.prog 93 #[.pointer (some ⟨p, 0, none⟩)] w fun e w' =>
    ∃ v, e = .returned v ∧ OwnB w' C v D.safe ∧ Mod (fun _ => False) w w' ∧ (∀ k, v.ownBlock = some k → w.heap.size ≤ k) := by
  obtain ⟨vs, vl, xs, ys, h, rfl⟩ := h
  exact rimage_any h C hC

set_option maxRecDepth 100000 in
theorem rdo_any (h : RDiskAt w B p D F) (hlim : D.l.length + 1 ≤ 1048576) (o : OpV) (ab : Option Addr) (cb : Nat) (al : Option Addr) (cl : Nat)
    (hb : BytesAt w ab o.b) (hl : IntsAt w al o.l) (hm : o.b.length ≤ 140737488351232) (hml : o.l.length ≤ 140737488351232)
    (hlB : ∀ x, al = some x → o.l ≠ [] → x.block < B) :
    Calls Try.prog 50 #[.pointer (some ⟨p, 0, none⟩), .agg #[.int .i64 o.kind, .int .i64 o.n, .slice ab o.b.length cb, .slice al o.l.length cl]] w fun e w' =>
      e = .returned (.int .i64 (D.doCode o)) ∧ Left (RDiskT B p (D.step o)) F w w' := by
  obtain ⟨kind, n, b, l⟩ := o
  simp only at *
  have hF := h.lt
  obtain ⟨W, hW⟩ : ∃ W, W = w.alloc (.cells #[.int .i64 kind, .int .i64 n, .slice ab b.length cb, .slice al l.length cl] 45) := ⟨_, rfl⟩
  have mW : Mod (fun _ => False) w W := by rw [hW]; exact Mod.alloc _ _ _
  have hdW := h.mod mW (fun _ _ => id)
  have hbW := hb.mod mW (fun _ _ _ => id)
  have hlW := hl.mod mW (fun _ _ _ => id)
  have hlF : ∀ x, al = some x → l ≠ [] → ¬ F x.block := fun x hx hne e => by have := (hF _ e).1; have := hlB x hx hne; omega
  by_cases h01 : kind = 0 ∨ kind = 1
  · have e1 : D.doCode ⟨kind, n, b, l⟩ = D.why n b := by simp [Dsk.doCode, h01]
    have e2 : D.step ⟨kind, n, b, l⟩ = D.write n b := by simp [Dsk.step, h01]
    rw [e1, e2]
    have hw := hdW.write hlim n ab b cb hbW (by omega)
    rcases h01 with rfl | rfl
    all_goals
      go_enter Try.func50, Try.ntmps50
      go_wp2_with fail
      rw [← hW]
      refine hw.mono ?_
      rintro e w2 ⟨rfl, ht⟩
      go_wp2
      go_ret
      exact ⟨rfl, ht.pre mW⟩
  by_cases h2 : kind = 2
  · subst h2
    have e1 : D.doCode ⟨2, n, b, l⟩ = D.whySync := by simp [Dsk.doCode]
    have e2 : D.step ⟨2, n, b, l⟩ = D.sync := by simp [Dsk.step]
    rw [e1, e2]
    go_enter Try.func50, Try.ntmps50
    go_wp2_with fail
    rw [← hW]
    refine (hdW.sync (by omega)).mono ?_
    rintro e w2 ⟨rfl, ht⟩
    go_wp2
    go_ret
    exact ⟨rfl, ht.pre mW⟩
  by_cases h3 : kind = 3
  · subst h3
    have e1 : D.doCode ⟨3, n, b, l⟩ = 0 := by simp [Dsk.doCode]
    have e2 : D.step ⟨3, n, b, l⟩ = { D with bad := true } := by simp [Dsk.step]
    rw [e1, e2]
    obtain ⟨vs, vl, xs, ys, hdW, hFF⟩ := hdW
    obtain ⟨-, -, d2, -⟩ := hdW.cell
    have t2 := thaw_of (i := 2) hdW.at_
    rw [hW] at d2 t2
    have hfl := hdW.flag 2 (.bool true) { D with bad := true } rfl rfl rfl
    have HFL := Lib.hid hfl
    clear hfl hdW
    go_enter Try.func50, Try.ntmps50
    go_wp2
    rw [← hW]
    go_ret
    subst hFF
    exact ⟨rfl, Left.pre mW ⟨HFL.out.2, _, ⟨_, _, _, _, HFL.out.1, rfl⟩, fun _ hk => .inl hk⟩⟩
  by_cases h4 : kind = 4
  · subst h4
    have e1 : D.doCode ⟨4, n, b, l⟩ = 0 := by simp [Dsk.doCode]
    have e2 : D.step ⟨4, n, b, l⟩ = { D with full := n.tmod 2 != 0 } := by simp [Dsk.step]
    rw [e1, e2]
    obtain ⟨vs, vl, xs, ys, hdW, hFF⟩ := hdW
    obtain ⟨-, -, -, d3, -⟩ := hdW.cell
    have t3 := thaw_of (i := 3) hdW.at_
    rw [hW] at d3 t3
    have hfl := hdW.flag 3 (.bool (n.tmod 2 != 0)) { D with full := n.tmod 2 != 0 } rfl rfl rfl
    have HFL := Lib.hid hfl
    clear hfl hdW
    go_enter Try.func50, Try.ntmps50
    go_wp2
    rw [← hW]
    go_ret
    subst hFF
    exact ⟨rfl, Left.pre mW ⟨HFL.out.2, _, ⟨_, _, _, _, HFL.out.1, rfl⟩, fun _ hk => .inl hk⟩⟩
  by_cases h5 : kind = 5
  · subst h5
    have e1 : D.doCode ⟨5, n, b, l⟩ = 0 := by simp [Dsk.doCode]
    have e2 : D.step ⟨5, n, b, l⟩ = D.crash l := by simp [Dsk.step]
    rw [e1, e2]
    go_enter Try.func50, Try.ntmps50
    go_wp2_with fail
    rw [← hW]
    refine (hdW.crash (by omega) al l cl hlW hlF (by omega)).mono ?_
    rintro e w2 ⟨rfl, ht⟩
    go_wp2
    go_ret
    exact ⟨rfl, ht.pre mW⟩
  · have h0 : kind ≠ 0 := fun e => h01 (.inl e)
    have h1 : kind ≠ 1 := fun e => h01 (.inr e)
    have e1 : D.doCode ⟨kind, n, b, l⟩ = 0 := by simp [Dsk.doCode, h0, h1, h2]
    have e2 : D.step ⟨kind, n, b, l⟩ = D := by simp [Dsk.step, h0, h1, h2, h3, h4, h5]
    rw [e1, e2]
    go_enter Try.func50, Try.ntmps50
    go_wp2
    rw [← hW]
    go_ret
    exact ⟨rfl, Left.pre mW ⟨Mod.refl _ _, _, hdW, fun _ hk => .inl hk⟩⟩
end

section
variable {w0 w : World} {B p : Nat} {Ts : List (Thg B)} {D : Dsk}
theorem Apart.rdisk (h : Apart w0 B Ts w) (i : Nat) (hi : Ts[i]? = some (RDiskT B p D)) : ∃ F, RDiskAt w B p D F := h.get i hi
theorem Apart.rborn (h : Apart w0 B Ts w) {v : Value} {D : Dsk} {w' : World} (hb : RBorn w B v D w') : ∃ p, v = .pointer (some ⟨p, 0, none⟩) ∧ Apart w0 B (Ts ++ [RDiskT B p D]) w' := by
  obtain ⟨p, F, rfl, hd, hm, hF⟩ := hb
  exact ⟨p, rfl, h.more (RDiskT B p D) hm hd hF⟩
theorem Apart.rdoBase {w0 : World} {Ts : List (Thg w0.heap.size)} {p : Nat} {D : Dsk} (h : Apart w0 w0.heap.size Ts w) (i : Nat) (hi : Ts[i]? = some (RDiskT w0.heap.size p D)) (hlim : D.l.length + 1 ≤ 1048576) (o : OpV) (ab : Option Addr) (cb : Nat) (al : Option Addr) (cl : Nat)
    (hb : BytesAt w0 ab o.b) (hl : IntsAt w0 al o.l) (hm : o.b.length ≤ 140737488351232) (hml : o.l.length ≤ 140737488351232)
    (hbB : ∀ x, ab = some x → o.b ≠ [] → x.block < w0.heap.size) (hlB : ∀ x, al = some x → o.l ≠ [] → x.block < w0.heap.size) :
    Calls Try.prog 50 #[.pointer (some ⟨p, 0, none⟩), .agg #[.int .i64 o.kind, .int .i64 o.n, .slice ab o.b.length cb, .slice al o.l.length cl]] w fun e w' =>
      e = .returned (.int .i64 (D.doCode o)) ∧ Apart w0 w0.heap.size (Ts.set i (RDiskT w0.heap.size p (D.step o))) w' := by
  obtain ⟨F, hd, hup⟩ := h.turn i hi
  exact (rdo_any hd hlim o ab cb al cl (hb.below h.bel hbB) (hl.mod (Mod.of_below h.bel) (fun x hx hne e => by have := hlB x hx hne; omega)) hm hml hlB).mono fun e w' ⟨he, ht⟩ => ⟨he, hup _ _ ht⟩
end
end Go.Proofs.Ytdinnkacilgmmaa
