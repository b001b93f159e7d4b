/- The pager: Read, Release, Root, Dead. -/
import Derived.Test.YtdinnkacilgmmaaPag6
namespace Go.Proofs.Ytdinnkacilgmmaa
open Go.RowKit

/-- bytes that are seen through a slice value, in new memory -/
def ViewAt (w : World) (H : Nat) (v : Value) (l : List UInt8) : Prop :=
  ∃ a cap, v = .slice a l.length cap ∧ BytesAt w a l ∧ (a = none → l = [] ∧ cap = 0) ∧ l.length ≤ cap ∧ ∀ x, a = some x → H ≤ x.block ∧ x.block < w.heap.size
def Pgr.read (P : Pgr) (D : Dsk) (n : Int) : List UInt8 × Int :=
  if P.there n then (if sound (sector D.now (P.frm + 2 + n.toNat)) then ((sector D.now (P.frm + 2 + n.toNat)).drop 4, 0) else ([], 12)) else ([], 1)

set_option maxRecDepth 100000 in
theorem pread_nil {w : World} (n : Int) : Calls Try.prog 67 #[.pointer none, .int .i64 n] w fun e w' => e = .returned (.tuple #[.slice none 0 0, .int .i64 2]) ∧ w = w' := by
  go_enter Try.func67, Try.ntmps67
  go_wp2
  go_ret2
  exact ⟨rfl, rfl⟩

set_option maxHeartbeats 1000000 in
set_option maxRecDepth 100000 in
theorem pread_any {w : World} {B B2 q p : Nat} {vm : Value} {P : Pgr} {D : Dsk} {F : Nat → Prop} (hp : PgV w B q p vm P) (hd : DiskAt w B2 p D F) (hfit : P.frm + 2 + P.pages ≤ D.N) (n : Int) :
    Calls Try.prog 67 #[.pointer (some ⟨q, 0, none⟩), .int .i64 n] w fun e w' => ∃ v, e = .returned (.tuple #[v, .int .i64 (P.read D n).2]) ∧ ViewAt w' w.heap.size v (P.read D n).1 ∧ Mod (fun _ => False) w w' := by
  obtain ⟨o, ho⟩ : ∃ o, o = P.read D n := ⟨_, rfl⟩
  rw [← ho]
  have top := hd.wf.top
  have KT := there_any hp n
  have HO := Lib.hid ho
  clear ho
  by_cases ht : P.there n = true
  · have ht' : 0 ≤ n ∧ n < (P.pages : Int) := of_decide_eq_true ht
    obtain ⟨m, rfl⟩ : ∃ m : Nat, n = (m : Int) := ⟨n.toNat, by omega⟩
    have hn : P.frm + 2 + m < D.N := by omega
    have hwr : D.wrong ((P.frm : Int) + 2 + (m : Int)) = 0 := by unfold Dsk.wrong; rw [if_neg (by omega)]
    have KR : ∀ w', Mod (fun _ => False) w w' → Calls Try.prog 37 #[.pointer (some ⟨p, 0, none⟩), .int .i64 ((P.frm : Int) + 2 + (m : Int))] w' fun e w'' => ∃ v, e = .returned (.tuple #[v, .int .i64 0]) ∧ OwnB w'' w.heap.size v (sector D.now (P.frm + 2 + m)) ∧ Mod (fun _ => False) w w'' := fun w' hm =>
      ((hd.mod hm (fun _ _ => id)).read ((P.frm : Int) + 2 + (m : Int)) w.heap.size hm.size).mono fun e w'' ⟨v, he, ho, hm', _⟩ => ⟨v, by rw [he, hwr], by rw [hwr, if_pos rfl, show ((P.frm : Int) + 2 + (m : Int)).toNat = P.frm + 2 + m by omega] at ho; exact ho, hm.trans' hm'⟩
    have hsl : (sector D.now (P.frm + 2 + m)).length = 256 := sector_length _ _ _ (by rw [hd.wf.now]; exact Nat.le_of_eq hd.wf.len.symm) hn
    have ho2 := HO.out
    unfold Pgr.read at ho2
    rw [if_pos ht, Int.toNat_natCast] at ho2
    rw [ht] at KT
    have c0 := hp.head.1
    have c1 := hp.head.2.1
    replace KR := Lib.hid KR
    replace KT := Lib.hid KT
    have HSL := Lib.hid hsl
    have HO2 := Lib.hid ho2
    have w1 : IntKind.i64.wrap ((P.frm : Int) + 2) = (P.frm : Int) + 2 := IntWalk.i64_in _ (by omega)
    have w2 : IntKind.i64.wrap ((P.frm : Int) + 2 + (m : Int)) = (P.frm : Int) + 2 + (m : Int) := IntWalk.i64_in _ (by omega)
    clear hwr hsl hd hp ho2 HO ht ht'
    generalize sector D.now (P.frm + 2 + m) = s at *
    go_enter Try.func67, Try.ntmps67
    go_wp2_with (first
      | (go_at_call 107; refine KT.out.mono ?_; rintro e wb ⟨rfl, rfl⟩))
    have md : Mod (fun _ => False) w w.drew := Mod.drew _ _
    go_region_held3 (fun w' => w'.cell? ⟨q, 0, none⟩ = some (.pointer (some ⟨p, 0, none⟩)) ∧ w'.cell? ⟨q, 1, none⟩ = some (.int .i64 (P.frm : Int))) (first | (refine ⟨?_, ?_⟩ <;> simpa using (by assumption)) | exact ⟨hmb.cell' c0 id, hmb.cell' c1 id⟩)
      ((go_at_call 37; refine (KR.out _ (by assumption)).mono ?_; rintro e wb ⟨v, rfl, hob, hmb⟩))
    obtain ⟨g, cap, cur, ev, -, hgg, hle, -⟩ := hob.row (by intro e; have := HSL.out; rw [e] at this; cases this)
    rw [HSL.out] at ev hle
    subst ev
    have KO := Lib.hid (opened_any hob HSL.out hle)
    have HM := Lib.hid hmb
    have HOB := Lib.hid hob
    clear hob hmb hgg KR KT c0 c1
    go_wp2_with fail
    refine KO.out.mono ?_
    rintro e wc ⟨rfl, mc⟩
    have hbs := ((OwnB.bytes (HOB.out.mod mc (fun _ _ => id))).2).sub 4 252
    have e2 : (s.drop 4).take 252 = s.drop 4 := List.take_of_length_le (by rw [List.length_drop, HSL.out]; decide)
    rw [e2, Nat.zero_add] at hbs
    have hgl := World.ownsRow.lt HOB.out g rfl
    have hms := mc.size
    have MM := Lib.hid (HM.out.trans' mc)
    have HBS := Lib.hid hbs
    cases hs : sound s
    · have hoe : o = ([], 12) := by rw [HO2.out, hs]; rfl
      subst hoe
      clear HO2 hs hbs e2 mc
      go_wp2
      go_ret2
      exact ⟨_, rfl, ⟨none, 0, rfl, BytesAt.nil _ _, fun _ => ⟨rfl, rfl⟩, Nat.le_refl _, fun x hx => by cases hx⟩, MM.out⟩
    · have hoe : o = (s.drop 4, 0) := by rw [HO2.out, hs]; rfl
      subst hoe
      have hl : (s.drop 4).length = 252 := by rw [List.length_drop, HSL.out]
      have HL := Lib.hid hl
      clear HO2 hs hbs e2 mc hl
      go_wp2
      go_ret2
      refine ⟨_, rfl, ⟨some ⟨g, 4, none⟩, cap - 4, by rw [HL.out]; rfl, HBS.out, (fun e => by cases e), (by rw [HL.out]; omega), fun x hx => ?_⟩, MM.out⟩
      cases hx
      exact ⟨hgl.1, Nat.lt_of_lt_of_le hgl.2 hms⟩
  · have htf : P.there n = false := by simpa using ht
    rw [htf] at KT
    have hoe : o = ([], 1) := by rw [HO.out]; unfold Pgr.read; rw [htf]; rfl
    subst hoe
    replace KT := Lib.hid KT
    clear HO ht htf hp hd
    go_enter Try.func67, Try.ntmps67
    go_wp2_with (first
      | (go_at_call 107; refine KT.out.mono ?_; rintro e wb ⟨rfl, rfl⟩))
    go_ret2
    exact ⟨_, rfl, ⟨none, 0, rfl, BytesAt.nil _ _, fun _ => ⟨rfl, rfl⟩, Nat.le_refl _, fun x hx => by cases hx⟩, Mod.refl _ _⟩

def Pgr.whyRelease (P : Pgr) (n : Int) : Int := if P.there n = true ∧ P.is_.getD n.toNat 0 = 2 then 0 else 1
def Pgr.release (P : Pgr) (n : Int) : Pgr := if P.there n = true ∧ P.is_.getD n.toNat 0 = 2 then { P with is_ := P.is_.set n.toNat 0 } else P
set_option maxRecDepth 100000 in
theorem prelease_nil {w : World} (n : Int) : Calls Try.prog 69 #[.pointer none, .int .i64 n] w fun e w' => e = .returned (.int .i64 2) ∧ w = w' := by
  go_enter Try.func69, Try.ntmps69
  go_wp2
  go_ret
  exact ⟨rfl, rfl⟩

set_option maxHeartbeats 1000000 in
set_option maxRecDepth 100000 in
theorem prelease_any {w : World} {B q p : Nat} {vm : Value} {P : Pgr} (hp : PgV w B q p vm P) (hpg : P.pages ≤ 4096) (n : Int) :
    Calls Try.prog 69 #[.pointer (some ⟨q, 0, none⟩), .int .i64 n] w fun e w' => e = .returned (.int .i64 (P.whyRelease n)) ∧ PgV w' B q p vm (P.release n) ∧ Mod (fun k => k = q) w w' := by
  obtain ⟨o, ho⟩ : ∃ o, o = P.whyRelease n := ⟨_, rfl⟩
  obtain ⟨P', hP'⟩ : ∃ P', P' = P.release n := ⟨_, rfl⟩
  rw [← ho, ← hP']
  unfold Pgr.whyRelease at ho
  unfold Pgr.release at hP'
  have KT := there_any hp n
  by_cases ht : P.there n = true
  · have ht' : 0 ≤ n ∧ n < (P.pages : Int) := of_decide_eq_true ht
    obtain ⟨m, rfl⟩ : ∃ m : Nat, n = (m : Int) := ⟨n.toNat, by omega⟩
    have hm : m < 4096 := by omega
    have hc := hp.is_cell m hm
    have hgm : P.is_.getD m 0 = P.is_[m]'(by have := hp.len; omega) := by simp [List.getD_eq_getElem?_getD, List.getElem?_eq_getElem (show m < P.is_.length by have := hp.len; omega)]
    rw [← hgm] at hc
    rw [Int.toNat_natCast] at ho hP'
    have hset := hp.setIs m hm 0
    have hfz := thaw_of (i := 3 + m) hp.at_
    rw [ht] at KT
    have HO := Lib.hid ho
    have HP' := Lib.hid hP'
    have HSET := Lib.hid hset
    have HP := Lib.hid hp
    have HT := Lib.hid ht
    replace KT := Lib.hid KT
    have hmi : (0 : Int) ≤ (m : Int) := by omega
    have hmj : (m : Int) < 4096 := by omega
    clear ho hP' hset hp hgm ht ht'
    generalize P.is_.getD m 0 = c at *
    by_cases hc2 : c = 2
    · subst hc2
      have ho := HO.out
      have hP' := HP'.out
      rw [if_pos ⟨HT.out, rfl⟩] at ho hP'
      subst ho hP'
      clear HO HP'
      go_enter Try.func69, Try.ntmps69
      go_wp2_with (first
        | (go_at_call 107; refine KT.out.mono ?_; rintro e wb ⟨rfl, rfl⟩))
      go_ret
      exact ⟨rfl, HSET.out, Mod.setCell _ _ _ rfl⟩
    · have ho := HO.out
      have hP' := HP'.out
      rw [if_neg (fun h => hc2 h.2)] at ho hP'
      subst ho hP'
      have hcn : ((c.toNat : Int) != 2) = true := by
        rw [bne_iff_ne]
        intro e
        exact hc2 (UInt8.toNat_inj.1 (by show c.toNat = 2; omega))
      unfold byteV at hc
      have HC2 := Lib.hid hc2
      clear HO HP' HSET hc2
      go_enter Try.func69, Try.ntmps69
      go_wp2_with (first
        | (go_at_call 107; refine KT.out.mono ?_; rintro e wb ⟨rfl, rfl⟩))
      go_ret
      exact ⟨rfl, HP.out, Mod.refl _ _⟩
  · have htf : P.there n = false := by simpa using ht
    rw [htf] at KT ho hP'
    rw [if_neg (fun h => by cases h.1)] at ho hP'
    subst ho hP'
    have HP := Lib.hid hp
    replace KT := Lib.hid KT
    clear hp ht htf
    go_enter Try.func69, Try.ntmps69
    go_wp2_with (first
      | (go_at_call 107; refine KT.out.mono ?_; rintro e wb ⟨rfl, rfl⟩))
    go_ret
    exact ⟨rfl, HP.out, Mod.refl _ _⟩

set_option maxRecDepth 100000 in
theorem pdead_nil {w : World} : Calls Try.prog 72 #[.pointer none] w fun e w' => e = .returned (.bool false) ∧ w = w' := by
  go_enter Try.func72, Try.ntmps72
  go_wp2
  go_ret
  exact ⟨rfl, rfl⟩
set_option maxRecDepth 100000 in
theorem pdead_any {w : World} {B q p : Nat} {vm : Value} {P : Pgr} (hp : PgV w B q p vm P) : Calls Try.prog 72 #[.pointer (some ⟨q, 0, none⟩)] w fun e w' => e = .returned (.bool P.dead) ∧ w = w' := by
  have c5 := hp.tail.2.2.2.2
  go_enter Try.func72, Try.ntmps72
  go_wp2
  go_ret
  exact ⟨rfl, rfl⟩

set_option maxRecDepth 100000 in
theorem proot_nil {w : World} : Calls Try.prog 71 #[.pointer none] w fun e w' => e = .returned zeroRt ∧ Mod (fun _ => False) w w' := by
  unfold zeroRt
  go_enter Try.func71, Try.ntmps71
  go_wp2
  exact bodyPost_ret (results_95 rfl _ _ rfl (RtCell.of (heap_alloc_new _ _))) rfl ⟨rfl, Mod.alloc _ _ _⟩
set_option maxHeartbeats 1000000 in
set_option maxRecDepth 100000 in
theorem proot_any {w : World} {B q p : Nat} {vm : Value} {P : Pgr} (hp : PgV w B q p vm P) (hm : P.root.mt.length ≤ 100) : Calls Try.prog 71 #[.pointer (some ⟨q, 0, none⟩)] w fun e w' =>
    ∃ v, e = .returned (rootV P.root v) ∧ OwnB w' w.heap.size v P.root.mt ∧ Mod (fun _ => False) w w' := by
  have ma : Mod (fun _ => False) w (w.alloc (.cells #[.int .i64 0, .int .i64 0, .int .i64 0, .slice none 0 0] 95)) := Mod.alloc _ _ _
  have kb := heap_alloc_new w (.cells #[.int .i64 0, .int .i64 0, .int .i64 0, .slice none 0 0] 95)
  have hp1 := hp.mod ma (fun _ _ => id)
  obtain ⟨t0, t1, t2, t3, -⟩ := hp1.tail
  have hmt := hp.mt
  clear hp1
  generalize P.root = Ro at *
  obtain ⟨am, cm, rfl, hlem, hcm, hbm⟩ := hmt.shape
  have ham : am = none → Ro.mt = [] ∧ cm = 0 := fun e => by
    subst e
    rcases hmt.2 with ⟨h1, h2⟩ | ⟨g', cap, cur, h1, -⟩
    · injection h1 with _ h3 h4; exact ⟨List.eq_nil_of_length_eq_zero h3, h4⟩
    · injection h1 with h3; cases h3
  have KO := own_any (w := w.alloc (.cells #[.int .i64 0, .int .i64 0, .int .i64 0, .slice none 0 0] 95)) Ro am _ cm rfl (by omega) ham (hbm.mod ma (fun _ _ _ => id)) _ (Nat.le_refl _)
  replace KO := Lib.hid KO
  have MA := Lib.hid ma
  have KB := Lib.hid kb
  clear ma kb hmt hbm ham hp
  unfold rootV at KO
  go_enter Try.func71, Try.ntmps71
  go_wp2_with fail
  refine KO.out.mono ?_
  rintro e w5 ⟨v, rfl, ho5, m5, hv5⟩
  obtain ⟨av, cv, rfl, -, -, -⟩ := ho5.shape
  have kr := m5.obj KB.out id
  have hcb := fun j => cell_of_row w5 w.heap.size j _ 95 (0, 0) kr
  have d0 := hcb 0
  have d1 := hcb 1
  have d2 := hcb 2
  have d3 := hcb 3
  simp only [List.getElem?_toArray, List.getElem?_cons_zero, List.getElem?_cons_succ] at d0 d1 d2 d3
  have g0 := thaw_of (i := 0) kr
  have g1 := thaw_of (i := 1) kr
  have g2 := thaw_of (i := 2) kr
  have g3 := thaw_of (i := 3) kr
  have hsz := MA.out.size
  have hlb := lt_of_block KB.out
  have KR := Lib.hid kr
  have HO5 := Lib.hid ho5
  have HV5 := Lib.hid hv5
  have M5 := Lib.hid (MA.out.trans' m5)
  clear hcb kr ho5 hv5 m5 t0 t1 t2 t3
  go_wp2
  have k5 := set4 KR.out (.int .i64 (Ro.gen : Int)) (.int .i64 Ro.page) (.int .i64 (Ro.next : Int)) (.slice av Ro.mt.length cv)
  have m6 := mod4 (F := fun k => k = w.heap.size) w5 w.heap.size rfl (.int .i64 (Ro.gen : Int)) (.int .i64 Ro.page) (.int .i64 (Ro.next : Int)) (.slice av Ro.mt.length cv)
  exact bodyPost_ret (results_95 rfl _ _ rfl (RtCell.of k5)) rfl ⟨_, rfl, (HO5.out.mod m6 (fun k hk e => by have := HV5.out k hk; omega)).weaken (by omega), M5.out.trans m6 (fun k hk e => by omega)⟩
end Go.Proofs.Ytdinnkacilgmmaa
