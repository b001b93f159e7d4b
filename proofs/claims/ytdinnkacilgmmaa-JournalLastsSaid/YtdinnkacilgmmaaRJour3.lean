/- The reference's Open, where nothing is left to scrub. -/
import Derived.Test.YtdinnkacilgmmaaRJour2
import Derived.Test.YtdinnkacilgmmaaRowsB
import Derived.Test.YtdinnkacilgmmaaJourZ
namespace Go.Proofs.Ytdinnkacilgmmaa
open Go.RowKit

/-- a row of byte rows that lie anywhere in blocks of bytes -/
def GAt (w : World) (H : Nat) (v : Value) (ls : List (List UInt8)) : Prop :=
  ∃ xs : List Value, w.ownsRow H 22 1 v xs.length xs ∧ xs.length = ls.length ∧ ∀ i (h : i < xs.length) (h2 : i < ls.length), ∃ g off cap, xs[i] = .slice (some ⟨g, off, none⟩) ls[i].length cap ∧ BytesAt w (some ⟨g, off, none⟩) ls[i] ∧ ∃ C fz, w.heap[g]? = some (.cells C 5 fz)
theorem GAt.nil (w : World) (H : Nat) : GAt w H (.slice none 0 0) [] := ⟨[], World.ownsRow_nil w H 22 1, rfl, fun i h => by simp at h⟩
theorem GAt.mod {F : Nat → Prop} {w w' : World} {H : Nat} {v : Value} {ls : List (List UInt8)} (h : GAt w H v ls) (hm : Mod F w w') (hv : ∀ k, v.ownBlock = some k → ¬ F k) (hF : ∀ k C fz, w.heap[k]? = some (.cells C 5 fz) → ¬ F k) : GAt w' H v ls := by
  obtain ⟨xs, h1, h2, h3⟩ := h
  refine ⟨xs, owns_mod h1 hm hv, h2, fun i hi hi2 => ?_⟩
  obtain ⟨g, off, cap, e, hb, C, fz, hc⟩ := h3 i hi hi2
  exact ⟨g, off, cap, e, hb.mod hm (fun x hx _ => by cases hx; exact hF g C fz hc), C, fz, hm.obj hc (hF g C fz hc)⟩
theorem GAt.rd {w : World} {H : Nat} {v : Value} {ls : List (List UInt8)} (h : GAt w H v ls) : ∃ a cap, v = .slice a ls.length cap ∧ RdBB w a ls := by
  obtain ⟨xs, h1, h2, h3⟩ := h
  obtain ⟨a, cap, e, -, -, -⟩ := owns_shape h1
  refine ⟨a, cap, by rw [← h2]; exact e, xs, h2, fun hne => ?_, fun i hi hi2 => ?_⟩
  · rcases h1.2 with ⟨e1, e2⟩ | ⟨g, cap', cur, e1, -, hg, -, -, -, hrow⟩
    · exact absurd (List.eq_nil_of_length_eq_zero e2) hne
    · rw [e] at e1
      cases e1
      refine ⟨g, 0, rfl, fun j hj => ?_⟩
      rw [cell_of_row w g (0 + j) cur 22 (0, 0) hg]
      have h8 := congrArg (fun x => x[j]?) hrow
      simp only [List.getElem?_take, Nat.mul_one, hj, if_true, Nat.zero_add] at h8 ⊢
      rw [← Array.getElem?_toList, h8, List.getElem?_eq_getElem hj]
  · obtain ⟨g, off, cap', e', hb, -⟩ := h3 i hi hi2
    exact ⟨_, cap', e', hb, fun e => by cases e⟩
theorem GAt.push {w w3 : World} {H : Nat} {v v' : Value} {ls : List (List UInt8)} {xs : List Value} {b : List UInt8} {g off cap : Nat} {o : Obj}
    (h1 : w.ownsRow H 22 1 v xs.length xs) (h2 : xs.length = ls.length) (h3 : ∀ i (h : i < xs.length) (h2 : i < ls.length), ∃ g off cap, xs[i] = .slice (some ⟨g, off, none⟩) ls[i].length cap ∧ BytesAt w (some ⟨g, off, none⟩) ls[i] ∧ ∃ C fz, w.heap[g]? = some (.cells C 5 fz))
    (hb : BytesAt w (some ⟨g, off, none⟩) b) (hc : ∃ C fz, w.heap[g]? = some (.cells C 5 fz))
    (k1 : w3.ownsRow H 22 1 v' (xs.length + 1) (xs ++ [.slice (some ⟨g, off, none⟩) b.length cap])) (k2 : Mod (fun k => some k = v.ownBlock) (w.alloc o) w3) : GAt w3 H v' (ls ++ [b]) := by
  have m1 : Mod (fun _ => False) w (w.alloc o) := Mod.alloc _ _ _
  have keep : ∀ {g : Nat} {C : Array Value} {fz : Nat × Nat}, w.heap[g]? = some (.cells C 5 fz) → ¬ some g = v.ownBlock := fun hg e => own_ne h1 hg (by decide) e.symm
  refine ⟨xs ++ [.slice (some ⟨g, off, none⟩) b.length cap], by rw [List.length_append]; exact k1, by simp [h2], fun i hi hi2 => ?_⟩
  by_cases e : i < xs.length
  · have e2 : i < ls.length := by omega
    simp only [List.getElem_append_left e, List.getElem_append_left e2]
    obtain ⟨g', off', cap', e', hb', C, fz, hc'⟩ := h3 i e e2
    exact ⟨g', off', cap', e', (hb'.mod m1 (fun _ _ _ => id)).mod k2 (fun x hx _ => by cases hx; exact keep hc'), C, fz, k2.obj (m1.obj hc' id) (keep hc')⟩
  · have : i = xs.length := by simp at hi; omega
    subst this
    simp only [List.getElem_append_right (Nat.le_refl _), List.getElem_append_right (show ls.length ≤ xs.length by omega)]
    obtain ⟨C, fz, hc⟩ := hc
    refine ⟨g, off, cap, by simp [h2], ?_, C, fz, k2.obj (m1.obj hc id) (keep hc)⟩
    have := (hb.mod m1 (fun _ _ _ => id)).mod k2 (fun x hx _ => by cases hx; exact keep hc)
    simpa [h2] using this

set_option maxHeartbeats 4000000 in
set_option maxRecDepth 100000 in
theorem ropen_clean {w : World} {B p : Nat} {D : Dsk} {F : Nat → Prop} (hd : RDiskAt w B p D F) (frm size next : Nat) (hf : frm ≤ D.N) (hz : 2 ≤ size) (hz2 : size ≤ D.N - frm) (hn1 : 1 ≤ next) (hn2 : next ≤ 1152921504606846976) (hlim : D.l.length ≤ 1000000)
    (hcl : ∀ s, (Jr.opened frm size next D).next ≤ s → (Jr.opened frm size next D).rd D s = none) :
    Calls Try.prog 102 #[.pointer (some ⟨p, 0, none⟩), .int .i64 (frm : Int), .int .i64 (size : Int), .int .i64 (next : Int)] w fun e w' =>
      ∃ q v, e = .returned (.tuple #[.pointer (some ⟨q, 0, none⟩), v, .int .i64 0]) ∧ GAt w' w.heap.size v (openRecs frm size next D) ∧ Mod (fun _ => False) w w' := by
  have htop := hd.wf.top
  have c0 : ∃ a c, w.cell? ⟨p, 0, none⟩ = some (.slice a D.N c) := by
    obtain ⟨vs, vl, xs, ys, hv, -⟩ := hd
    obtain ⟨c0, -⟩ := hv.cell
    obtain ⟨as1, cs1, es, -, -, -⟩ := owns_shape hv.safe
    rw [es, hv.hx] at c0
    exact ⟨_, _, c0⟩
  obtain ⟨ap, cp, c0⟩ := c0
  have i1 : ¬ (frm : Int) < 0 := by omega
  have i2 : (frm : Int) ≤ (D.N : Int) := by omega
  have i3 : (2 : Int) ≤ (size : Int) := by omega
  have i4 : (size : Int) ≤ (D.N : Int) - (frm : Int) := by omega
  have i5 : (1 : Int) ≤ (next : Int) := by omega
  have i6 : (next : Int) ≤ 1152921504606846976 := by omega
  obtain ⟨J, hJ⟩ : ∃ J : Jr, J = ⟨frm, size, next, next, false⟩ := ⟨_, rfl⟩
  obtain ⟨W, hW⟩ : ∃ W, W = w.alloc (.cells #[.pointer (some ⟨p, 0, none⟩), .int .i64 (frm : Int), .int .i64 (size : Int), .int .i64 (next : Int), .int .i64 (next : Int), .bool false] 172) := ⟨_, rfl⟩
  have mW : Mod (fun _ => False) w W := by rw [hW]; exact Mod.alloc _ _ _
  have hjW : RJAt W w.heap.size p { J with next := next } := by rw [hW, hJ]; exact heap_alloc_new w _
  obtain ⟨OJ, hOJ⟩ : ∃ OJ, OJ = Jr.opened frm size next D := ⟨_, rfl⟩
  obtain ⟨OR, hOR⟩ : ∃ OR, OR = openRecs frm size next D := ⟨_, rfl⟩
  rw [← hOJ] at hcl
  rw [← hOR]
  have hOJ' : OJ = { J with next := (J.recs D (size + 1) next).2 } := by rw [hOJ, hJ]; rfl
  have hOR' : OR = (J.recs D (size + 1) next).1 := by rw [hOR, hJ]; rfl
  have jf : J.frm = frm := by rw [hJ]
  have js : J.size = size := by rw [hJ]
  have jst : J.start = next := by rw [hJ]
  have KR : ∀ s w', next ≤ s → s ≤ next + size → RJAt w' w.heap.size p { J with next := s } → Mod (fun _ => False) w w' → Calls Try.prog 125 #[.pointer (some ⟨w.heap.size, 0, none⟩), .int .i64 (s : Int)] w' fun e w'' => RRecSaid (J.rec_ D s) s w'.heap.size e w'' ∧ Mod (fun _ => False) w' w'' := fun s w' h1 h2 hj hm =>
    rrecord_any hj (hd.mod hm (fun _ _ => id)) s (by omega) (by show J.start + J.size ≤ _; rw [jst, js]; omega) (by show s ≤ J.start + J.size; rw [jst, js]; omega) (by show 1 ≤ J.size; omega) (by show J.start ≤ s; omega) (by show J.frm + J.size ≤ D.N; omega) (by omega)
  have KA : ∀ s w', OJ.next ≤ s → s ≤ 2305843009213693952 → RJAt w' w.heap.size p OJ → Mod (fun _ => False) w w' → Calls Try.prog 126 #[.pointer (some ⟨w.heap.size, 0, none⟩), .int .i64 (s : Int)] w' fun e w'' => e = .returned (.tuple #[.int .i64 0, .slice none 0 0, .bool false]) ∧ Mod (fun _ => False) w' w'' := fun s w' h1 h2 hj hm => by
    have hb := (recs_bounds J D (size + 1) next (by rw [jst]; omega)).1
    have hs1 : 1 ≤ s := by rw [hOJ'] at h1; have : (J.recs D (size + 1) next).2 ≤ s := h1; omega
    refine (rat_any hj (hd.mod hm (fun _ _ => id)) s hs1 h2 (by rw [hOJ']; show J.frm ≤ _; omega) (by rw [hOJ']; show 1 ≤ J.size; omega) (by rw [hOJ']; show J.size ≤ _; omega) (place_lt OJ (by rw [hOJ']; show 1 ≤ J.size; omega) (by rw [hOJ']; show J.frm + J.size ≤ D.N; omega) s) (by omega)).mono ?_
    rintro e w'' ⟨hr, hm'⟩
    rw [hcl s h1] at hr
    rcases hr with ⟨-, he⟩ | ⟨f, pc, g, cap, e1, -⟩
    · exact ⟨he, hm'⟩
    · cases e1
  have hOn : OJ.next ≤ next + size ∧ next ≤ OJ.next := by
    have := recs_bounds J D (size + 1) next (by rw [jst]; omega)
    rw [hOJ']
    rw [jst, js] at this
    exact ⟨this.2, this.1⟩
  replace KR := Lib.hid KR
  replace KA := Lib.hid KA
  have HOJ := Lib.hid hOJ'
  have HOR := Lib.hid hOR'
  have HJf := Lib.hid jf
  have HJs := Lib.hid js
  have HJst := Lib.hid jst
  clear hOJ hOR hOJ' hOR' jf js jst hJ hcl hd
  go_enter Try.func102, Try.ntmps102
  go_upto_block 0 with fail
  rw [← hW]
  have hsz : size ≤ 4096 := by omega
  have hnx : next + size ≤ 2305843009213693952 := by omega
  have HB0 := Lib.hid (⟨hf, hz, hz2, hn1, hn2⟩ : frm ≤ D.N ∧ 2 ≤ size ∧ size ≤ D.N - frm ∧ 1 ≤ next ∧ next ≤ 1152921504606846976)
  clear hW i1 i2 i3 i4 i5 i6 hf hz hz2 hn1 hn2
  go_cut [12, 36, 37, 38, 48, 49, 52, 53, 56] (fun v12 _ _ _ _ _ _ _ _ wx => RJAt wx w.heap.size p OJ ∧ GAt wx w.heap.size v12 OR ∧ Mod (fun _ => False) w wx)
  case first =>
    go_wp2_with fail
    go_loopw [12] (fun v12 wr => ∃ (s : Nat) (acc : List (List UInt8)), next ≤ s ∧ s ≤ next + size ∧ acc.length ≤ s - next ∧ RJAt wr w.heap.size p { J with next := s } ∧ GAt wr w.heap.size v12 acc ∧ Mod (fun _ => False) w wr ∧ OR = acc ++ (J.recs D (next + size + 1 - s) s).1 ∧ OJ = { J with next := (J.recs D (next + size + 1 - s) s).2 }) (fun v12 _ => size + 1 - slLen v12)
    case atStart => exact ⟨next, [], Nat.le_refl _, by omega, Nat.zero_le _, hjW, GAt.nil _ _, mW, by rw [HOR.out, show next + size + 1 - next = size + 1 by omega]; rfl, by rw [HOJ.out, show next + size + 1 - next = size + 1 by omega]⟩
    case round =>
      obtain ⟨s, acc, hs1, hs2, hal, hjr, hacc, hm, hor, hoj⟩ := hrel
      have hK := KR.out s wr hs1 hs2 hjr hm
      have d4 := hjr.cell.2.2.2.2.1
      have t4 := thaw_of (i := 4) hjr
      dsimp only at d4
      obtain ⟨ro, hro⟩ : ∃ ro, ro = J.rec_ D s := ⟨_, rfl⟩
      rw [← hro] at hK
      have HJR := Lib.hid hjr
      clear hjr
      go_wp2_with fail
      refine hK.mono ?_
      rintro e w2 ⟨hr, hm2⟩
      clear hK
      rcases hr with ⟨rfl, rfl⟩ | ⟨b, m, g, off, cap, rfl, rfl, hb, hcb, -⟩
      · have hfu : next + size + 1 - s = (next + size - s) + 1 := by omega
        rw [hfu] at hor hoj
        simp only [Jr.recs, ← hro, List.append_nil] at hor hoj
        have hjo : RJAt w2 w.heap.size p OJ := by rw [hoj]; exact HJR.out.mod hm2 id
        rw [← hor] at hacc
        have HJO := Lib.hid hjo
        have HG := Lib.hid (hacc.mod hm2 (fun _ _ => id) (fun _ _ _ _ => id))
        clear hoj hor hro hjo hacc
        go_wp2
        go_meet
        exact ⟨HJO.out, HG.out, hm.trans' hm2⟩
      · have hbd := rec_bounds hro.symm
        rw [HJst.out, HJs.out] at hbd
        obtain ⟨hm1', hm2', -⟩ := hbd
        have hrs : J.recs D (next + size + 1 - s) s = (b :: (J.recs D (next + size + 1 - (s + m)) (s + m)).1, (J.recs D (next + size + 1 - (s + m)) (s + m)).2) := by
          rw [show next + size + 1 - s = (next + size - s) + 1 by omega]
          simp only [Jr.recs, ← hro]
          rw [recs_fuel J D (next + size - s) (next + size + 1 - (s + m)) (s + m) (by rw [HJst.out, HJs.out]; omega) (by rw [HJst.out, HJs.out]; omega)]
        have hor2 : OR = (acc ++ [b]) ++ (J.recs D (next + size + 1 - (s + m)) (s + m)).1 := by rw [hor, hrs]; simp
        have hoj2 : OJ = { J with next := (J.recs D (next + size + 1 - (s + m)) (s + m)).2 } := by rw [hoj, hrs]
        replace hor2 := Lib.hid hor2
        replace hoj2 := Lib.hid hoj2
        have HJ2 := Lib.hid (HJR.out.mod hm2 id)
        have hm02 := hm.trans' hm2
        obtain ⟨xs, k1, k2, k3⟩ := hacc.mod hm2 (fun _ _ => id) (fun _ _ _ _ => id)
        obtain ⟨av, cv, ev, -, -, -⟩ := owns_shape k1
        subst ev
        have hle : w.heap.size ≤ w2.heap.size := hm02.size
        have hxl : xs.length ≤ 4096 := by rw [k2]; omega
        have K2 := Lib.hid k2
        have hj7 : ∀ o w7, Mod (fun k => some k = (Value.slice av xs.length cv).ownBlock) (w2.alloc o) w7 → RJAt w7 w.heap.size p { J with next := s } := fun o w7 hm7 =>
          (HJ2.out.mod (Mod.alloc (fun _ => False) w2 o) id).mod hm7 (fun e => own_ne (owns_mod k1 (Mod.alloc (fun _ => False) w2 o) (fun _ _ => id)) (HJ2.out.mod (Mod.alloc (fun _ => False) w2 o) id) (by decide) e.symm)
        have HJ7 := Lib.hid hj7
        have K3 := Lib.hid k3
        have HCB := Lib.hid hcb
        have HB := Lib.hid hb
        clear hj7 hor hoj hro hrs hacc k3 hcb hb d4 t4 k2
        go_wp2_with (first
          | (at_builtin; refine appR 66 22 _ 1 24 Try.underlying66 info22 rfl (by decide) (by decide) rfl _ _ rfl w.heap.size (.slice av xs.length cv) xs.length xs rfl (owns_mod k1 (Mod.alloc (fun _ => False) _ _) (fun _ _ => id)) ⟨w2.heap.size, 0, none⟩ 1 1 [.slice (some ⟨g, off, none⟩) b.length cap] rfl rfl (cells_new w2 _ 22) (slices_oneCell7 _ _ _) (by omega) (by simp; omega) ?_; intro v7 w7 ho7 hm7 hb7; have hj7 := HJ7.out _ _ hm7; have d4 : w7.cell? ⟨w.heap.size, 4, none⟩ = some (.int .i64 (s : Int)) := hj7.cell.2.2.2.2.1; have t4 := thaw_of (i := 4) hj7))
        have hj8 : RJAt (w7.setCell ⟨w.heap.size, 4, none⟩ (.int .i64 ((s : Int) + (m : Int)))) w.heap.size p { J with next := s + m } := by
          unfold RJAt
          rw [setCell_block hj7]
          simp
        have hm78 : Mod (fun k => k = w.heap.size) w7 (w7.setCell ⟨w.heap.size, 4, none⟩ (.int .i64 ((s : Int) + (m : Int)))) := Mod.setCell _ _ _ rfl
        have hm7' : Mod (fun _ => False) w w7 := (hm02.trans' (Mod.alloc _ _ _)).trans hm7 (fun k hk e => by have := (World.ownsRow.lt k1 k e.symm).1; omega)
        have hm8 : Mod (fun _ => False) w (w7.setCell ⟨w.heap.size, 4, none⟩ (.int .i64 ((s : Int) + (m : Int)))) := hm7'.trans hm78 (fun k hk e => by omega)
        have hG2 := GAt.push (ls := acc) k1 K2.out K3.out HB.out HCB.out ho7 hm7
        have hG3 := hG2.mod hm78 (fun k hk e => by obtain ⟨xs', o1, -⟩ := hG2; exact own_ne o1 hj7 (by decide) (e ▸ hk)) (fun k C fz hk e => by rw [e] at hk; have := hj7; unfold RJAt at this; rw [this] at hk; cases hk)
        obtain ⟨a7, c7, e7, -⟩ := hG3.rd
        have hlen : (acc ++ [b]).length = acc.length + 1 := by simp
        subst e7
        go_wp2_with fail
        go_roundw
        case rel => exact ⟨s + m, acc ++ [b], by omega, by omega, by rw [hlen]; omega, hj8, hG3, hm8, hor2.out, hoj2.out⟩
        case measure =>
          have := K2.out
          rw [hlen]
          simp [slLen]
          omega
  case rest =>
    obtain ⟨hjo, hacc, hm⟩ := hcut
    clear hjW mW KR
    have hOz : OJ.size = size := by rw [HOJ.out]; exact HJs.out
    have d4 := hjo.cell.2.2.2.2.1
    have HG := Lib.hid hacc
    have HJ := Lib.hid hjo
    clear hacc hjo
    go_upto_block 2 with fail
    go_cut [16] (fun v16 wx => v16 = .bool false ∧ Mod (fun _ => False) wc wx)
    case first =>
      go_wp2_with fail
      go_loopw [16, 17] (fun v16 v17 wr => ∃ n : Nat, n ≤ size ∧ v16 = .bool false ∧ v17 = .int .i64 ((OJ.next : Int) + (n : Int)) ∧ Mod (fun _ => False) wc wr) (fun _ v17 _ => OJ.next + size - (intOf v17).toNat)
      case atStart => exact ⟨0, Nat.zero_le _, rfl, by simp, Mod.refl _ _⟩
      case round =>
        obtain ⟨n, hn, rfl, rfl, hmr⟩ := hrel
        have e4 := hmr.cell' d4 id
        have w1 : IntKind.i64.wrap ((OJ.next : Int) + (size : Int)) = (OJ.next : Int) + (size : Int) := IntWalk.i64_in _ (by omega)
        by_cases hlt : n < size
        · have hlt' : (OJ.next : Int) + (n : Int) < (OJ.next : Int) + (size : Int) := by omega
          have hka := KA.out (OJ.next + n) wr (by omega) (by omega) (HJ.out.mod hmr id) (hm.trans' hmr)
          rw [show ((OJ.next + n : Nat) : Int) = (OJ.next : Int) + (n : Int) by push_cast; rfl] at hka
          have HKA := Lib.hid hka
          clear hka
          go_wp2_with fail
          refine HKA.out.mono ?_
          rintro e w3 ⟨rfl, hm3⟩
          go_wp2_with fail
          go_roundw
          case rel => exact ⟨n + 1, by omega, rfl, by go_num, hmr.trans' hm3⟩
          case measure => simp [intOf]; omega
        · obtain rfl : n = size := by omega
          go_wp2
          go_meet
          exact ⟨rfl, hmr⟩
    case rest =>
      obtain ⟨rfl, hm2⟩ := hcut
      go_wp2_with fail
      go_ret3
      exact ⟨w.heap.size, _, rfl, HG.out.mod hm2 (fun _ _ => id) (fun _ _ _ _ => id), hm.trans' hm2⟩
end Go.Proofs.Ytdinnkacilgmmaa
