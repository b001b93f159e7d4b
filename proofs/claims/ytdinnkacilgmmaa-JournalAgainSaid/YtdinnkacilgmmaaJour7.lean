/- The journal: Open. -/
import Derived.Test.YtdinnkacilgmmaaJour6
namespace Go.Proofs.Ytdinnkacilgmmaa
open Go.RowKit

theorem open_nil {w : World} (a b c : Int) : Calls Try.prog 53 #[.pointer none, .int .i64 a, .int .i64 b, .int .i64 c] w fun e w' => e = .returned (.tuple #[.pointer none, .slice none 0 0, .int .i64 2]) ∧ w = w' := by
  go_enter Try.func53, Try.ntmps53
  go_wp2
  go_ret3
  exact ⟨rfl, rfl⟩

/-- what 'record' has left in two slots -/
def RecIn (o : Option (List UInt8 × Nat)) (w : World) (H : Nat) (v n : Value) : Prop :=
  (o = none ∧ v = .slice none 0 0 ∧ n = .int .i64 0) ∨ ∃ b m, o = some (b, m) ∧ n = .int .i64 ((m : Nat) : Int) ∧ OwnB w H v b

/-- a journal that was just opened -/
def Jr.opened (frm size next : Nat) (D : Dsk) : Jr := { frm := frm, size := size, start := next, next := (Jr.recs ⟨frm, size, next, next, false⟩ D (size + 1) next).2, dead := false }
def openRecs (frm size next : Nat) (D : Dsk) : List (List UInt8) := (Jr.recs ⟨frm, size, next, next, false⟩ D (size + 1) next).1

theorem rec_none_end (J : Jr) (D : Dsk) (s : Nat) (h : J.start + J.size ≤ s) : J.rec_ D s = none := by
  cases hr : J.rec_ D s with
  | none => rfl
  | some bn =>
    obtain ⟨b, n⟩ := bn
    have := rec_bounds hr
    omega
theorem recs_fuel (J : Jr) (D : Dsk) : ∀ f1 f2 s, J.start + J.size ≤ f1 + s → J.start + J.size ≤ f2 + s → J.recs D f1 s = J.recs D f2 s := by
  intro f1
  induction f1 with
  | zero =>
    intro f2 s h1 h2
    cases f2 with
    | zero => rfl
    | succ f2 => simp only [Jr.recs, rec_none_end J D s (by omega)]
  | succ f1 ih =>
    intro f2 s h1 h2
    cases f2 with
    | zero => simp only [Jr.recs, rec_none_end J D s (by omega)]
    | succ f2 =>
      cases hr : J.rec_ D s with
      | none => simp only [Jr.recs, hr]
      | some bn =>
        obtain ⟨b, n⟩ := bn
        have hb := rec_bounds hr
        simp only [Jr.recs, hr]
        rw [ih f2 (s + n) (by omega) (by omega)]
theorem recs_bounds (J : Jr) (D : Dsk) : ∀ f s, s ≤ J.start + J.size → s ≤ (J.recs D f s).2 ∧ (J.recs D f s).2 ≤ J.start + J.size := by
  intro f
  induction f with
  | zero => intro s h; exact ⟨Nat.le_refl _, h⟩
  | succ f ih =>
    intro s h
    cases hr : J.rec_ D s with
    | none => simp only [Jr.recs, hr]; exact ⟨Nat.le_refl _, h⟩
    | some bn =>
      obtain ⟨b, n⟩ := bn
      have hb := rec_bounds hr
      simp only [Jr.recs, hr]
      have := ih (s + n) (by omega)
      omega
theorem slices_oneCell7 (a : Option Addr) (n c : Nat) : ∀ u ∈ [Value.slice a n c], u.oneCell' = true := by
  intro u hu; rw [List.mem_singleton] at hu; subst hu; rfl
def slLen : Value → Nat
  | .slice _ n _ => n
  | _ => 0

set_option maxHeartbeats 4000000 in
set_option maxRecDepth 100000 in
theorem open_ok {w : World} {B p : Nat} {D : Dsk} {F : Nat → Prop} (hd : DiskAt w B p D F) (hfine : D.fine) (frm size next : Nat) (hf : frm ≤ D.N) (hz : 2 ≤ size) (hz2 : size ≤ D.N - frm) (hn1 : 1 ≤ next) (hn2 : next ≤ 1152921504606846976) (hlim : D.l.length ≤ 1000000) :
    Calls Try.prog 53 #[.pointer (some ⟨p, 0, none⟩), .int .i64 (frm : Int), .int .i64 (size : Int), .int .i64 (next : Int)] w fun e w' =>
      ∃ q v G F', e = .returned (.tuple #[.pointer (some ⟨q, 0, none⟩), v, .int .i64 0]) ∧ JAt w' q p (Jr.opened frm size next D) ∧ OBB w' w.heap.size v (openRecs frm size next D) G ∧ Mod F w w' ∧ DiskAt w' B p ((Jr.opened frm size next D).scrub D) F' ∧ (∀ k, F' k → F k ∨ w.heap.size ≤ k) ∧ w.heap.size ≤ q ∧ ¬ F' q ∧ ¬ G q ∧ ∀ k, G k → ¬ F' k := by
  have htop := hd.wf.top
  have i1 : ¬ (frm : Int) < 0 := by omega
  have i2 : (frm : Int) ≤ (D.N : Int) := by omega
  have i3 : (2 : Int) ≤ (size : Int) := by omega
  have i4 : (size : Int) ≤ (D.N : Int) - (frm : Int) := by omega
  have i5 : (1 : Int) ≤ (next : Int) := by omega
  have i6 : (next : Int) ≤ 1152921504606846976 := by omega
  obtain ⟨J, hJ⟩ : ∃ J : Jr, J = ⟨frm, size, next, next, false⟩ := ⟨_, rfl⟩
  obtain ⟨W, hW⟩ : ∃ W, W = w.alloc (.cells #[.pointer (some ⟨p, 0, none⟩), .int .i64 (frm : Int), .int .i64 (size : Int), .int .i64 (next : Int), .int .i64 (next : Int), .bool false] 137) := ⟨_, rfl⟩
  have mW : Mod (fun _ => False) w W := by rw [hW]; exact Mod.alloc _ _ _
  have hjW : JAt W w.heap.size p { J with next := next } := by rw [hW, hJ]; exact heap_alloc_new w _
  have hFq : ¬ F w.heap.size := fun e => by have := (hd.lt _ e).2; omega
  have hsz : W.heap.size = w.heap.size + 1 := by rw [hW]; simp
  obtain ⟨OJ, hOJ⟩ : ∃ OJ, OJ = Jr.opened frm size next D := ⟨_, rfl⟩
  obtain ⟨OR, hOR⟩ : ∃ OR, OR = openRecs frm size next D := ⟨_, rfl⟩
  rw [← hOJ, ← hOR]
  have hOJ' : OJ = { J with next := (J.recs D (size + 1) next).2 } := by rw [hOJ, hJ]; rfl
  have hOR' : OR = (J.recs D (size + 1) next).1 := by rw [hOR, hJ]; rfl
  have jf : J.frm = frm := by rw [hJ]
  have js : J.size = size := by rw [hJ]
  have jst : J.start = next := by rw [hJ]
  have KR : ∀ s w', next ≤ s → s ≤ next + size → JAt w' w.heap.size p { J with next := s } → Mod (fun _ => False) w w' → Calls Try.prog 95 #[.pointer (some ⟨w.heap.size, 0, none⟩), .int .i64 (s : Int)] w' fun e w'' => (∃ v n, e = .returned (.tuple #[v, n]) ∧ RecIn (J.rec_ D s) w'' w.heap.size v n ∧ ∀ k, v.ownBlock = some k → w'.heap.size ≤ k) ∧ Mod (fun _ => False) w' w'' := fun s w' h1 h2 hj hm => by
    have hd' := hd.mod hm (fun _ _ => id)
    refine (record_any hj hd' s (by omega) (by show J.start + J.size ≤ _; rw [jst, js]; omega) (by show s ≤ J.start + J.size; rw [jst, js]; omega) (by show J.start ≤ s; omega) (by show 1 ≤ J.size; omega) (by show J.frm + J.size ≤ D.N; omega) w.heap.size hm.size).mono ?_
    rintro e w'' ⟨hr, hm'⟩
    refine ⟨?_, hm'⟩
    rcases hr with ⟨h1, h2⟩ | ⟨b, n, v, h1, h2, h3, h4⟩
    · exact ⟨_, _, h2, .inl ⟨h1, rfl, rfl⟩, fun k hk => by simp [Value.ownBlock] at hk⟩
    · exact ⟨_, _, h2, .inr ⟨b, n, h1, rfl, h3⟩, h4⟩
  replace KR := Lib.hid KR
  have HOJ := Lib.hid hOJ'
  have HOR := Lib.hid hOR'
  have HJf := Lib.hid jf
  have HJs := Lib.hid js
  have HJst := Lib.hid jst
  have HD := Lib.hid hd
  have HFQ := Lib.hid hFq
  have HF := Lib.hid hfine
  clear hOJ hOR hOJ' hOR' jf js jst hJ
  go_enter Try.func53, Try.ntmps53
  go_wp2_with fail
  refine HD.out.size.mono ?_
  rintro e w' ⟨rfl, rfl⟩
  go_wp2_with fail
  rw [← hW]
  refine (KR.out next W (by omega) (by omega) hjW mW).mono ?_
  rintro e w1 ⟨⟨v14, v15, rfl, hrec, hnr⟩, hm1⟩
  go_upto_block 0 with fail
  go_cut [13] (fun v13 wx => ∃ G, JAt wx w.heap.size p OJ ∧ OBB wx w.heap.size v13 OR G ∧ Mod (fun _ => False) w wx)
  case first =>
    go_wp2_with fail
    go_loopw [13, 14, 15] (fun v13 v14 v15 wr => ∃ (s : Nat) (acc : List (List UInt8)) (G : Nat → Prop), next ≤ s ∧ s ≤ next + size ∧ acc.length ≤ s - next ∧ JAt wr w.heap.size p { J with next := s } ∧ OBB wr w.heap.size v13 acc G ∧ RecIn (J.rec_ D s) wr w.heap.size v14 v15 ∧ Mod (fun _ => False) w wr ∧ OR = acc ++ (J.recs D (next + size + 1 - s) s).1 ∧ OJ = { J with next := (J.recs D (next + size + 1 - s) s).2 }) (fun v13 _ _ _ => size + 1 - slLen v13)
    case atStart => exact ⟨next, [], _, Nat.le_refl _, by omega, Nat.zero_le _, hjW.mod hm1 id, OBB.nil _ _, hrec, mW.trans' hm1, by rw [HOR.out, show next + size + 1 - next = size + 1 by omega]; rfl, by rw [HOJ.out, show next + size + 1 - next = size + 1 by omega]⟩
    case round =>
      obtain ⟨s, acc, G, hs1, hs2, hal, hjr, hacc, hrec, hm, hor, hoj⟩ := hrel
      rcases hrec with ⟨hno, rfl, rfl⟩ | ⟨b, m, hso, rfl, hob⟩
      · have hfu : next + size + 1 - s = (next + size - s) + 1 := by omega
        rw [hfu] at hor hoj
        simp only [Jr.recs, hno, List.append_nil] at hor hoj
        have hjo : JAt wr w.heap.size p OJ := by rw [hoj]; exact hjr
        rw [← hor] at hacc
        have HJO := Lib.hid hjo
        clear hoj hjr hor hno
        go_wp2
        go_meet
        exact ⟨G, HJO.out, hacc, hm⟩
      · have hbd := rec_bounds hso
        rw [HJst.out, HJs.out] at hbd
        obtain ⟨hm1', hm2', -⟩ := hbd
        have hrs : J.recs D (next + size + 1 - s) s = (b :: (J.recs D (next + size + 1 - (s + m)) (s + m)).1, (J.recs D (next + size + 1 - (s + m)) (s + m)).2) := by
          rw [show next + size + 1 - s = (next + size - s) + 1 by omega]
          simp only [Jr.recs, hso]
          rw [recs_fuel J D (next + size - s) (next + size + 1 - (s + m)) (s + m) (by rw [HJst.out, HJs.out]; omega) (by rw [HJst.out, HJs.out]; omega)]
        have hor2 : OR = (acc ++ [b]) ++ (J.recs D (next + size + 1 - (s + m)) (s + m)).1 := by rw [hor, hrs]; simp
        have hoj2 : OJ = { J with next := (J.recs D (next + size + 1 - (s + m)) (s + m)).2 } := by rw [hoj, hrs]
        replace hor2 := Lib.hid hor2
        replace hoj2 := Lib.hid hoj2
        clear hor hoj hso hrs
        obtain ⟨xs, k1, k2, k3, k4⟩ := hacc
        obtain ⟨av, cv, ev, -, -, -⟩ := owns_shape k1
        obtain ⟨ab, cb, eb, -, -, -⟩ := hob.shape
        subst ev eb
        have k5 : 0 < (m : Int) := by omega
        have hle : w.heap.size ≤ wr.heap.size := hm.size
        have hxl : xs.length ≤ 4096 := by rw [k2]; omega
        have hj7 : ∀ o w7, Mod (fun k => some k = (Value.slice av xs.length cv).ownBlock) (wr.alloc o) w7 → JAt w7 w.heap.size p { J with next := s } := fun o w7 hm7 =>
          (hjr.mod (Mod.alloc (fun _ => False) wr o) id).mod hm7 (fun e => own_ne (owns_mod k1 (Mod.alloc (fun _ => False) wr o) (fun _ _ => id)) (hjr.mod (Mod.alloc (fun _ => False) wr o) id) (by decide) e.symm)
        have HJ7 := Lib.hid hj7
        clear hj7
        go_wp2_with (first
          | (at_builtin; refine appR 66 22 _ 1 24 Try.underlying66 info22 rfl (by decide) (by decide) rfl _ _ rfl w.heap.size _ xs.length xs rfl (owns_mod k1 (Mod.alloc (fun _ => False) _ _) (fun _ _ => id)) ⟨wr.heap.size, 0, none⟩ 1 1 _ rfl rfl (cells_new wr _ 22) (slices_oneCell7 _ _ _) (by omega) (by simp; omega) ?_; intro v7 w7 ho7 hm7 hb7; have hj7 := HJ7.out _ _ hm7; have d4 : w7.cell? ⟨w.heap.size, 4, none⟩ = some (.int .i64 (s : Int)) := hj7.cell.2.2.2.2.1; have t4 := thaw_of (i := 4) hj7))
        have hj8 : JAt (w7.setCell ⟨w.heap.size, 4, none⟩ (.int .i64 ((s : Int) + (m : Int)))) w.heap.size p { J with next := s + m } := by
          unfold JAt
          rw [setCell_block hj7]
          simp
        have hm78 : Mod (fun k => k = w.heap.size) w7 (w7.setCell ⟨w.heap.size, 4, none⟩ (.int .i64 ((s : Int) + (m : Int)))) := Mod.setCell _ _ _ rfl
        have hm7' : Mod (fun _ => False) w w7 := (hm.trans' (Mod.alloc _ _ _)).trans hm7 (fun k hk e => by have := (World.ownsRow.lt k1 k e.symm).1; omega)
        have hm8 : Mod (fun _ => False) w (w7.setCell ⟨w.heap.size, 4, none⟩ (.int .i64 ((s : Int) + (m : Int)))) := hm7'.trans hm78 (fun k hk e => by omega)
        obtain ⟨G2, hG2, -⟩ := OBB.push (ls := acc) (G := G) k1 k2 k3 k4 hob ho7 hm7 hb7
        have hG3 := hG2.mod hm78 (fun k hk e => hG2.ne hj7 (by decide) (by decide) (e ▸ hk))
        have hKR := KR.out (s + m) _ (by omega) (by omega) hj8 hm8
        rw [show ((s + m : Nat) : Int) = (s : Int) + (m : Int) by omega] at hKR
        have hxa : xs.length = acc.length := k2
        have hlen : (acc ++ [b]).length = xs.length + 1 := by simp [k2]
        clear hG2 hm78 hm7' hj7 ho7 hm7 hb7 d4 t4 k1 k2 k3 k4 hob
        generalize w7.setCell ⟨w.heap.size, 4, none⟩ (.int .i64 ((s : Int) + (m : Int))) = w8 at *
        refine hKR.mono ?_
        rintro e w9 ⟨⟨v14, v15, rfl, hrec, -⟩, hm9⟩
        go_wp2_with fail
        obtain ⟨a7, c7, e7, -, -⟩ := hG3.shape
        go_roundw
        case rel => exact ⟨s + m, acc ++ [b], G2, by omega, by omega, by omega, hj8.mod hm9 id, hG3.mod hm9 (fun _ _ => id), hrec, hm8.trans' hm9, hor2.out, hoj2.out⟩
        case measure =>
          rw [e7, hlen]
          simp [slLen]
          omega
  case rest =>
    obtain ⟨G, hjo, hacc, hm⟩ := hcut
    go_wp2_with fail
    have hd2 := HD.out.mod hm (fun _ _ => id)
    have hjn : OJ.next ≤ next + size ∧ 1 ≤ OJ.next ∧ OJ.size = size ∧ OJ.frm = frm := by
      have := recs_bounds J D (size + 1) next (by rw [HJst.out, HJs.out]; omega)
      rw [HJst.out, HJs.out] at this
      rw [HOJ.out]
      exact ⟨this.2, by show 1 ≤ (J.recs D (size + 1) next).2; omega, HJs.out, HJf.out⟩
    obtain ⟨n1, n2, n3, n4⟩ := hjn
    refine (scrub_any hjo hd2 HFQ.out HF.out n2 (by omega) (by omega) (by omega) hlim).mono ?_
    rintro e w9 ⟨rfl, hmw, F2, hd4, hF2⟩
    have hjz := hjo.mod hmw HFQ.out
    have hol := hacc.lt
    have hoz := hacc.mod hmw (fun k hk e => by have := (hol k hk).1; have := (HD.out.lt _ e).2; omega)
    have hq := lt_of_block hjo
    go_wp2_with fail
    go_ret3
    refine ⟨w.heap.size, _, G, F2, rfl, hjz, hoz, (hm.mono (fun _ _ e => e.elim)).trans hmw (fun k hk e => e), hd4, fun k hk => ?_, Nat.le_refl _, fun e => ?_, hacc.ne hjo (by decide) (by decide), fun k hk e => ?_⟩
    · rcases hF2 k hk with h | h
      · exact .inl h
      · exact .inr (Nat.le_trans hm.size h)
    · rcases hF2 _ e with h | h
      · exact HFQ.out h
      · omega
    · rcases hF2 k e with h | h
      · have := (HD.out.lt _ h).2; have := (hol k hk).1; omega
      · have := (hol k hk).2; omega
end Go.Proofs.Ytdinnkacilgmmaa
