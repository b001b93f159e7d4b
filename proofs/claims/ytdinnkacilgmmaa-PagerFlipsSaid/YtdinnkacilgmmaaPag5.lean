/- The pager: readSlot. -/
import Derived.Test.YtdinnkacilgmmaaPag4
namespace Go.Proofs.Ytdinnkacilgmmaa
open Go.RowKit

/-- a sector, read as a slot -/
def rootOf (pages : Nat) (s : List UInt8) : Option Rt :=
  if sound s = true ∧ 1 ≤ unle ((s.drop 4).take 8) ∧ unle ((s.drop 4).take 8) ≤ 1152921504606846976 ∧ unle ((s.drop 12).take 4) ≤ pages ∧ 1 ≤ unle ((s.drop 16).take 8) ∧ unle ((s.drop 16).take 8) ≤ 1152921504606846976 ∧ (s.getD 24 0).toNat ≤ 100 then
    some ⟨unle ((s.drop 4).take 8), (unle ((s.drop 12).take 4) : Int) - 1, unle ((s.drop 16).take 8), (s.drop 25).take (s.getD 24 0).toNat⟩
  else none
def zeroRt : Value := .agg #[.int .i64 0, .int .i64 0, .int .i64 0, .slice none 0 0]
def SlotSaid (o : Option Rt) (H : Nat) (e : Ending) (w' : World) : Prop :=
  (o = none ∧ e = .returned (.tuple #[zeroRt, .bool false])) ∨
  ∃ R v, o = some R ∧ e = .returned (.tuple #[rootV R v, .bool true]) ∧ OwnB w' H v R.mt

theorem results_95b {fn : Func} {p t : Tmp} {b : Nat} {v x : Value} (h : fn.results = #[.cell p 95, .tmp t]) (tmps : Array Value) (w : World) (hp : tmps.getD p undef = .pointer (some ⟨b, 0, none⟩)) (hc : RtCell w b v) (ht : tmps.getD t undef = x) :
    (results fn tmps).run Try.prog w = .ok (.tuple #[v, x]) w := by
  obtain ⟨x0, x1, x2, x3, rfl, h0, h1, h2, h3⟩ := hc
  simp only [results, h]
  have hp' : tmps[p]?.getD undef = .pointer (some ⟨b, 0, none⟩) := by simpa using hp
  have ht' : tmps[t]?.getD undef = x := by simpa using ht
  simp [hp', ht', asAddr, go_sem, h0, h1, h2, h3]

set_option maxHeartbeats 2000000 in
set_option maxRecDepth 100000 in
theorem readSlot_any {w : World} {B B2 q p : Nat} {vm : Value} {P : Pgr} {D : Dsk} {F : Nat → Prop} (hp : PgV w B q p vm P) (hd : DiskAt w B2 p D F) (n : Nat) (hn : n < D.N) (hpg : P.pages ≤ 4096) :
    Calls Try.prog 103 #[.pointer (some ⟨q, 0, none⟩), .int .i64 (n : Int)] w fun e w' => SlotSaid (rootOf P.pages (sector D.now n)) w.heap.size e w' ∧ Mod (fun _ => False) w w' := by
  have hwr : D.wrong (n : Int) = 0 := by unfold Dsk.wrong; rw [if_neg (by omega)]
  have KR : ∀ w', Mod (fun _ => False) w w' → Calls Try.prog 37 #[.pointer (some ⟨p, 0, none⟩), .int .i64 (n : Int)] w' fun e w'' => ∃ v, e = .returned (.tuple #[v, .int .i64 0]) ∧ OwnB w'' w.heap.size v (sector D.now n) ∧ Mod (fun _ => False) w' w'' := fun w' hm =>
    ((hd.mod hm (fun _ _ => id)).read (n : Int) w.heap.size hm.size).mono fun e w'' ⟨v, he, ho, hm', _⟩ => ⟨v, by rw [he, hwr], by rw [hwr, if_pos rfl] at ho; exact ho, hm'⟩
  have hsl : (sector D.now n).length = 256 := sector_length _ _ _ (by rw [hd.wf.now]; exact Nat.le_of_eq hd.wf.len.symm) hn
  have m1 : Mod (fun _ => False) w (w.alloc (.cells #[.int .i64 0, .int .i64 0, .int .i64 0, .slice none 0 0] 95)) := Mod.alloc _ _ _
  have kb := heap_alloc_new w (.cells #[.int .i64 0, .int .i64 0, .int .i64 0, .slice none 0 0] 95)
  have c0 := (m1.cell' hp.head.1 id)
  have hpgl : (P.pages : Int) ≤ 4096 := by omega
  replace KR := Lib.hid KR
  have HSL := Lib.hid hsl
  have HP := Lib.hid hp
  have HM1 := Lib.hid m1
  have KB := Lib.hid kb
  clear hwr hsl hd hp kb m1
  generalize sector D.now n = s at *
  obtain ⟨o, ho⟩ : ∃ o, o = rootOf P.pages s := ⟨_, rfl⟩
  rw [← ho]
  have HO1 := Lib.hid ho
  clear ho
  go_enter Try.func103, Try.ntmps103
  go_wp2_with (first
    | (go_at_call 37; refine (KR.out _ (by first | exact HM1.out)).mono ?_; rintro e wb ⟨v, rfl, ob, mb⟩))
  obtain ⟨g, cap, cur, ev, -, hgg, hle, -⟩ := ob.row (by intro e; have := HSL.out; rw [e] at this; cases this)
  rw [HSL.out] at ev hle
  subst ev
  have hgb : w.heap.size < g := by
    have h1 := (World.ownsRow.lt ob g rfl).1
    rcases Nat.lt_or_eq_of_le h1 with h | h
    · exact h
    · exfalso
      have := mb.obj KB.out id
      rw [← h, this] at hgg
      injection hgg with hgg
      injection hgg with _ h2
      cases h2
  refine (opened_any ob HSL.out hle).mono ?_
  rintro e wc ⟨rfl, mc⟩
  have kc := mc.obj (mb.obj KB.out id) id
  have hcc := fun j => cell_of_row wc w.heap.size j _ 95 (0, 0) kc
  have e0 := hcc 0
  have e1 := hcc 1
  have e2 := hcc 2
  have e3 := hcc 3
  simp only [List.getElem?_toArray, List.getElem?_cons_zero, List.getElem?_cons_succ] at e0 e1 e2 e3
  have g0 := thaw_of (i := 0) kc
  have g1 := thaw_of (i := 1) kc
  have g2 := thaw_of (i := 2) kc
  have g3 := thaw_of (i := 3) kc
  have KC := Lib.hid kc
  have MC := Lib.hid ((HM1.out.trans' mb).trans' mc)
  have OC := Lib.hid (ob.mod mc (fun _ _ => id))
  have C2 := Lib.hid (((HM1.out.trans' mb).trans' mc).cell' HP.out.head.2.2 id)
  clear kc hcc ob mb mc c0 KR HM1 KB
  cases hs : sound s
  · have hno : o = none := by rw [HO1.out]; unfold rootOf; rw [if_neg]; rintro ⟨h, -⟩; rw [hs] at h; cases h
    have HNO := Lib.hid hno
    clear hno hs
    go_wp2
    have k5 := set4 KC.out (.int .i64 0) (.int .i64 0) (.int .i64 0) (.slice none 0 0)
    refine bodyPost_ret (results_95b rfl _ _ rfl (RtCell.of k5) rfl) rfl ⟨.inl ⟨HNO.out, rfl⟩, MC.out.trans (mod4 (F := fun k => k = w.heap.size) _ _ rfl _ _ _ _) (fun k hk e => by omega)⟩
  · have hbs := (OwnB.bytes OC.out).2
    have b1 := (hbs.sub 4 8)
    have b2 := (hbs.sub 12 4)
    have b3 := (hbs.sub 16 8)
    have x24 := (OC.out.cellAt 24 (by rw [HSL.out]; decide)).1
    have hg24 : s.getD 24 0 = s[24]'(by rw [HSL.out]; decide) := by simp [List.getD_eq_getElem?_getD, List.getElem?_eq_getElem (show 24 < s.length by rw [HSL.out]; decide)]
    rw [← hg24] at x24
    have ho := HO1.out
    unfold rootOf at ho
    have L1 : ((s.drop 4).take 8).length = 8 := by rw [List.length_take, List.length_drop, HSL.out]; decide
    have L2 : ((s.drop 12).take 4).length = 4 := by rw [List.length_take, List.length_drop, HSL.out]; decide
    have L3 : ((s.drop 16).take 8).length = 8 := by rw [List.length_take, List.length_drop, HSL.out]; decide
    have u1 := unle_lt ((s.drop 4).take 8)
    have u2 := unle_lt ((s.drop 12).take 4)
    have u3 := unle_lt ((s.drop 16).take 8)
    rw [L1] at u1
    rw [L2] at u2
    rw [L3] at u3
    have K1 : ∀ w', Mod (fun _ => False) wc w' → Calls Try.prog 128 #[.slice (some ⟨g, 4, none⟩) 8 (cap - 4)] w' fun e w'' => e = .returned (.int .u64 (unle ((s.drop 4).take 8) : Int)) ∧ Mod (fun _ => False) wc w'' := fun w' hm' =>
      (get_any w' (some ⟨g, 4, none⟩) _ 8 _ L1 (by rw [Nat.zero_add] at b1; exact b1.mod hm' (fun _ _ _ => id)) (by rw [L1]; decide)).mono fun e w'' ⟨he, hm⟩ => ⟨he, hm'.trans' hm⟩
    have K2 : ∀ w', Mod (fun _ => False) wc w' → Calls Try.prog 128 #[.slice (some ⟨g, 12, none⟩) 4 (cap - 4 - 8)] w' fun e w'' => e = .returned (.int .u64 (unle ((s.drop 12).take 4) : Int)) ∧ Mod (fun _ => False) wc w'' := fun w' hm' =>
      (get_any w' (some ⟨g, 12, none⟩) _ 4 _ L2 (by rw [Nat.zero_add] at b2; exact b2.mod hm' (fun _ _ _ => id)) (by rw [L2]; decide)).mono fun e w'' ⟨he, hm⟩ => ⟨he, hm'.trans' hm⟩
    have K3 : ∀ w', Mod (fun _ => False) wc w' → Calls Try.prog 128 #[.slice (some ⟨g, 16, none⟩) 8 (cap - 4 - 12)] w' fun e w'' => e = .returned (.int .u64 (unle ((s.drop 16).take 8) : Int)) ∧ Mod (fun _ => False) wc w'' := fun w' hm' =>
      (get_any w' (some ⟨g, 16, none⟩) _ 8 _ L3 (by rw [Nat.zero_add] at b3; exact b3.mod hm' (fun _ _ _ => id)) (by rw [L3]; decide)).mono fun e w'' ⟨he, hm⟩ => ⟨he, hm'.trans' hm⟩
    replace K1 := Lib.hid K1
    replace K2 := Lib.hid K2
    replace K3 := Lib.hid K3
    clear hbs b1 b2 b3 L1 L2 L3 hg24
    generalize unle ((s.drop 4).take 8) = X at *
    generalize unle ((s.drop 12).take 4) = Y at *
    generalize unle ((s.drop 16).take 8) = Z at *
    generalize s.getD 24 0 = f at *
    have HO := Lib.hid ho
    clear ho HO1
    have hc8' : 252 ≤ cap - 4 := by omega
    generalize cap - 4 = c4 at *
    have hcap8 : (8 : Int) ≤ (c4 : Int) := by omega
    have hcap12 : (12 : Int) ≤ (c4 : Int) := by omega
    have hcap20 : (20 : Int) ≤ (c4 : Int) := by omega
    have hne8 : ¬ (c4 = 8) := by omega
    have hne12 : ¬ (c4 = 12) := by omega
    have hne0 : ¬ (c4 = 0) := by omega
    have md : Mod (fun _ => False) wc wc.drew := Mod.drew _ _
    go_upto_region 7 with fail
    go_region_held3 (fun w' => Mod (fun _ => False) wc w' ∧ w'.cell? ⟨g, 24, none⟩ = some (byteV f)) (exact ⟨by assumption, (by assumption : Mod (fun _ => False) wc _).cell' x24 id⟩)
      (first
        | (go_at_call 128; (with_reducible refine (K1.out _ (by assumption)).mono ?_); rintro e w1 ⟨rfl, hm1⟩)
        | (go_at_call 128; (with_reducible refine (K2.out _ (by assumption)).mono ?_); rintro e w1 ⟨rfl, hm1⟩)
        | (go_at_call 128; (with_reducible refine (K3.out _ (by assumption)).mono ?_); rintro e w1 ⟨rfl, hm1⟩))
    have wf : IntKind.i64.wrap (f.toNat : Int) = (f.toNat : Int) := IntWalk.i64_in _ (by have := f.toNat_lt; omega)
    rw [wf]
    replace e0 := hm1.cell' e0 id
    replace e1 := hm1.cell' e1 id
    replace e2 := hm1.cell' e2 id
    replace e3 := hm1.cell' e3 id
    have kc := hm1.obj KC.out id
    replace g0 := thaw_of (i := 0) kc
    replace g1 := thaw_of (i := 1) kc
    replace g2 := thaw_of (i := 2) kc
    replace g3 := thaw_of (i := 3) kc
    have c2 := hm1.cell' C2.out id
    have M1 := Lib.hid (MC.out.trans' hm1)
    have O1 := Lib.hid (OC.out.mod hm1 (fun _ _ => id))
    have K1c := Lib.hid kc
    have wp : IntKind.u64.wrap (P.pages : Int) = (P.pages : Int) := IntWalk.u64_in _ (by omega)
    clear x24 hm1 kc K1 K2 K3 md wf KC OC C2 MC
    by_cases hok : 1 ≤ X ∧ X ≤ 1152921504606846976 ∧ Y ≤ P.pages ∧ 1 ≤ Z ∧ Z ≤ 1152921504606846976 ∧ f.toNat ≤ 100
    · obtain ⟨h1, h2, h3, h4, h5, h6⟩ := hok
      have hyes : o = some ⟨X, (Y : Int) - 1, Z, (s.drop 25).take f.toNat⟩ := by rw [HO.out, if_pos ⟨hs, h1, h2, h3, h4, h5, h6⟩]
      have HYES := Lib.hid hyes
      clear hyes hs
      have a1 : ¬ (X : Int) < 1 := by omega
      have a2 : ¬ 1152921504606846976 < (X : Int) := by omega
      have a3 : ¬ (P.pages : Int) < (Y : Int) := by omega
      have a4 : ¬ (Z : Int) < 1 := by omega
      have a5 : ¬ 1152921504606846976 < (Z : Int) := by omega
      have a6 : ¬ (100 : Int) < (f.toNat : Int) := by omega
      have w1' : IntKind.i64.wrap (X : Int) = (X : Int) := IntWalk.i64_in _ (by omega)
      have w2' : IntKind.i64.wrap (Y : Int) = (Y : Int) := IntWalk.i64_in _ (by omega)
      have w3' : IntKind.i64.wrap (Z : Int) = (Z : Int) := IntWalk.i64_in _ (by omega)
      have w4' : IntKind.i64.wrap ((Y : Int) - 1) = (Y : Int) - 1 := IntWalk.i64_in _ (by omega)
      have w5' : IntKind.i64.wrap (21 + (f.toNat : Int)) = 21 + (f.toNat : Int) := IntWalk.i64_in _ (by omega)
      have hlm : ((s.drop 25).take f.toNat).length = f.toNat := by rw [List.length_take, List.length_drop, HSL.out]; omega
      have hbm := (OwnB.bytes O1.out).2.sub 25 f.toNat
      rw [Nat.zero_add] at hbm
      have HLM := Lib.hid hlm
      have HBM := Lib.hid hbm
      clear HO
      generalize (s.drop 25).take f.toNat = mt at *
      clear hlm hbm h1 h2 h3 h4 h5 h6
      have k1 : (0 : Int) ≤ 21 + (f.toNat : Int) := by omega
      have k2 : (21 : Int) + (f.toNat : Int) ≤ (c4 : Int) := by omega
      have k3 : (21 : Int) ≤ 21 + (f.toNat : Int) := by omega
      have k4 : ((21 : Int) + (f.toNat : Int)).toNat = 21 + f.toNat := by omega
      have k7 : ¬ (c4 = 21) := by omega
      go_wp2_with fail
      refine (clone_n (some ⟨g, 25, none⟩) mt _ _ w1 w1.heap.size HLM.out (Nat.le_refl _) (by rw [HLM.out]; omega) (fun e => by cases e) HBM.out).mono ?_
      rintro e w3 ⟨v, rfl, o3, m3, hv⟩
      obtain ⟨av, cv, rfl, -, -, -⟩ := o3.shape
      replace e0 := m3.cell' e0 id
      replace e1 := m3.cell' e1 id
      replace e2 := m3.cell' e2 id
      replace e3 := m3.cell' e3 id
      have kc := m3.obj K1c.out id
      replace g0 := thaw_of (i := 0) kc
      replace g1 := thaw_of (i := 1) kc
      replace g2 := thaw_of (i := 2) kc
      replace g3 := thaw_of (i := 3) kc
      have hs1 := M1.out.size
      have hlw := lt_of_block K1c.out
      have KC := Lib.hid kc
      have O3 := Lib.hid (o3.weaken (B := w.heap.size) (by omega))
      have M3 := Lib.hid (M1.out.trans' m3)
      have HV := Lib.hid (fun (k : Nat) (hk : (Value.slice av mt.length cv).ownBlock = some k) => hv k hk)
      clear kc o3 m3 hv hgg
      go_wp2
      have k5 := set4 KC.out (.int .i64 (X : Int)) (.int .i64 ((Y : Int) - 1)) (.int .i64 (Z : Int)) (.slice av mt.length cv)
      refine bodyPost_ret (results_95b rfl _ _ rfl (RtCell.of k5) rfl) rfl ⟨.inr ⟨_, _, HYES.out, rfl, O3.out.mod (mod4 (F := fun k => k = w.heap.size) _ _ rfl _ _ _ _) (fun k hk e => ?_)⟩, M3.out.trans (mod4 (F := fun k => k = w.heap.size) _ _ rfl _ _ _ _) (fun k hk e => by omega)⟩
      have := HV.out k hk
      omega
    · have hno : o = none := by rw [HO.out, if_neg]; rintro ⟨-, h⟩; exact hok h
      have HNO := Lib.hid hno
      clear hno hs
      have hbad : (X : Int) < 1 ∨ (¬ (X : Int) < 1 ∧ 1152921504606846976 < (X : Int)) ∨ (¬ (X : Int) < 1 ∧ ¬ 1152921504606846976 < (X : Int) ∧ (P.pages : Int) < (Y : Int)) ∨
          (¬ (X : Int) < 1 ∧ ¬ 1152921504606846976 < (X : Int) ∧ ¬ (P.pages : Int) < (Y : Int) ∧ (Z : Int) < 1) ∨
          (¬ (X : Int) < 1 ∧ ¬ 1152921504606846976 < (X : Int) ∧ ¬ (P.pages : Int) < (Y : Int) ∧ ¬ (Z : Int) < 1 ∧ 1152921504606846976 < (Z : Int)) ∨
          (¬ (X : Int) < 1 ∧ ¬ 1152921504606846976 < (X : Int) ∧ ¬ (P.pages : Int) < (Y : Int) ∧ ¬ (Z : Int) < 1 ∧ ¬ 1152921504606846976 < (Z : Int) ∧ (100 : Int) < (f.toNat : Int)) := by omega
      clear hok
      rcases hbad with h1 | ⟨h1, h2⟩ | ⟨h1, h2, h3⟩ | ⟨h1, h2, h3, h4⟩ | ⟨h1, h2, h3, h4, h5⟩ | ⟨h1, h2, h3, h4, h5, h6⟩
      all_goals
        go_wp2
        have k5 := set4 K1c.out (.int .i64 0) (.int .i64 0) (.int .i64 0) (.slice none 0 0)
        refine bodyPost_ret (results_95b rfl _ _ rfl (RtCell.of k5) rfl) rfl ⟨.inl ⟨HNO.out, rfl⟩, M1.out.trans (mod4 (F := fun k => k = w.heap.size) _ _ rfl _ _ _ _) (fun k hk e => by omega)⟩
end Go.Proofs.Ytdinnkacilgmmaa
