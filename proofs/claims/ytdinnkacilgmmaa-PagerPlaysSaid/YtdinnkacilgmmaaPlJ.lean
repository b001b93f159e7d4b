/- What RowPagerPlays needs, part 10. -/
import Derived.Test.YtdinnkacilgmmaaPlI
import Derived.Deep.QuietTactic
import Derived.BigQuiet
import Derived.ArgAppend
namespace Go.Proofs.Ytdinnkacilgmmaa
open Go.RowKit

theorem results_t108t {fn : Func} {p t u : Tmp} {b : Nat} {v x y : Value} (h : fn.results = #[.tmp t, .cell p 108, .tmp u]) (tmps : Array Value) (w : World) (hp : tmps.getD p undef = .pointer (some ⟨b, 0, none⟩)) (hc : RtCell w b v) (ht : tmps.getD t undef = x) (hu : tmps.getD u undef = y) :
    (results fn tmps).run Try.prog w = .ok (.tuple #[x, v, y]) w := by
  obtain ⟨x0, x1, x2, x3, rfl, h0, h1, h2, h3⟩ := hc
  simp only [results, h]
  have hp' : tmps[p]?.getD undef = .pointer (some ⟨b, 0, none⟩) := by simpa using hp
  have ht' : tmps[t]?.getD undef = x := by simpa using ht
  have hu' : tmps[u]?.getD undef = y := by simpa using hu
  simp [hp', ht', hu', asAddr, go_sem, h0, h1, h2, h3]

/-- while it is being opened -/
structure ROpI (w : World) (r frm pg : Nat) (D : Dsk) (i : Nat) (W : World) : Prop where
  pg : ∃ vi vm, RPg W w.heap.size (w.heap.size + 1 + 1) r vi vm ⟨frm, pg, zeros4096, bestAt pg frm D i, false⟩ ∧ (∀ k, vi.ownBlock = some k → w.heap.size < k) ∧ (∀ k, vm.ownBlock = some k → w.heap.size < k)
  m : Mod (fun _ => False) w W
  r : W.heap[w.heap.size]? = some (.cells #[.int .i64 0, .int .i64 0, .int .i64 0, .slice none 0 0] 108 (0, 0))
theorem ROpI.mod {w W W' : World} {r frm pg : Nat} {D : Dsk} {i : Nat} (h : ROpI w r frm pg D i W) (hm : Mod (fun _ => False) W W') : ROpI w r frm pg D i W' := by
  obtain ⟨vi, vm, hp, h1, h2⟩ := h.pg
  exact ⟨⟨vi, vm, hp.mod hm (fun _ _ => id), h1, h2⟩, h.m.trans' hm, hm.obj h.r id⟩
theorem ROpI.skip {w W : World} {r frm pg : Nat} {D : Dsk} {i : Nat} (h : ROpI w r frm pg D i W) (hb : bestAt pg frm D (i + 1) = bestAt pg frm D i) : ROpI w r frm pg D (i + 1) W := by
  obtain ⟨vi, vm, hp, h1, h2⟩ := h.pg
  exact ⟨⟨vi, vm, by rw [hb]; exact hp, h1, h2⟩, h.m, h.r⟩

set_option maxHeartbeats 2000000 in
set_option maxRecDepth 100000 in
theorem rpopen_ok {w : World} {B r : Nat} {D : Dsk} {F : Nat → Prop} (hd : RDiskAt w B r D F) (hlim : D.l.length ≤ 1048576) (frm size : Nat) (hf : frm ≤ D.N) (hs3 : 3 ≤ size) (hsz : size ≤ D.N - frm) :
    Calls Try.prog 113 #[.pointer (some ⟨r, 0, none⟩), .int .i64 (frm : Int), .int .i64 (size : Int)] w fun e w' => ∃ q vi vm, e = .returned (.tuple #[.pointer (some ⟨q, 0, none⟩), rootV (Pgr.opened frm size D).root vm, .int .i64 0]) ∧
      RPg w' w.heap.size q r vi vm (Pgr.opened frm size D) ∧ Mod (fun _ => False) w w' := by
  obtain ⟨Ro, hRo⟩ : ∃ Ro, Ro = (Pgr.opened frm size D).root := ⟨_, rfl⟩
  obtain ⟨Po, hPo⟩ : ∃ Po, Po = Pgr.opened frm size D := ⟨_, rfl⟩
  rw [← hRo, ← hPo]
  obtain ⟨pg, hpg⟩ : ∃ pg, pg = size - 2 := ⟨_, rfl⟩
  unfold Pgr.opened at hRo hPo
  rw [← hpg] at hRo hPo
  have HRO := Lib.hid hRo
  have HPO := Lib.hid hPo
  clear hRo hPo
  have top := hd.wf.top
  obtain ⟨vs, vl, xs, ys, hv, hF⟩ : ∃ vs vl xs ys, RV w B r vs vl xs ys D ∧ F = rfoot r vs vl xs ys := hd
  obtain ⟨a, c, rfl, hac, -, -⟩ := owns_shape hv.safe
  have c0 := hv.cell.1
  rw [hv.hx] at c0 hac
  have hd : RDiskAt w B r D F := ⟨_, _, _, _, hv, hF⟩
  have a1 : ¬ (frm : Int) < 0 := by omega
  have a2 : ¬ (D.N : Int) < (frm : Int) := by omega
  have a3 : ¬ (size : Int) < 3 := by omega
  have a4 : ¬ ((D.N : Int) - (frm : Int) < (size : Int)) := by omega
  have w1 : IntKind.i64.wrap ((D.N : Int) - (frm : Int)) = (D.N : Int) - (frm : Int) := IntWalk.i64_in _ (by omega)
  have w2 : IntKind.i64.wrap ((size : Int) - 2) = (pg : Int) := by rw [hpg]; rw [IntWalk.i64_in _ (by omega)]; omega
  have hpg4 : pg ≤ 4096 := by omega
  have hpg1 : 1 ≤ pg := by omega
  have km := run_make_ints (w.alloc (.cells #[.int .i64 0, .int .i64 0, .int .i64 0, .slice none 0 0] 108)) pg (by omega)
  have c0 := (Mod.alloc (fun _ => False) w (.cells #[.int .i64 0, .int .i64 0, .int .i64 0, .slice none 0 0] 108)).cell' c0 id
  have HD := Lib.hid hd
  have HP := Lib.hid hpg
  have HSZ := Lib.hid hsz
  clear hd hv hF hac hpg hsz
  go_enter Try.func113, Try.ntmps113
  go_upto_region 5 with fail
  obtain ⟨W2, hW2⟩ : ∃ W2, W2 = ((w.alloc (.cells #[.int .i64 0, .int .i64 0, .int .i64 0, .slice none 0 0] 108)).alloc (.cells (zerosI pg) 3)).alloc (.cells #[.pointer (some ⟨r, 0, none⟩), .int .i64 (frm : Int), .slice (some ⟨w.heap.size + 1, 0, none⟩) pg pg, .int .i64 0, .int .i64 (-1), .int .i64 1, .slice none 0 0, .bool false] 164) := ⟨_, rfl⟩
  have I0 : ROpI w r frm pg D 0 W2 := by
    have hown := World.ownsRow_lit (w := w.alloc (.cells #[.int .i64 0, .int .i64 0, .int .i64 0, .slice none 0 0] 108)) (base := w.heap.size) (e := 3) (size := 1) (zerosI pg) pg (by simp) (by unfold maxLen; omega) (by simp [zerosI])
    have mm := Mod.alloc (fun _ => False) ((w.alloc (.cells #[.int .i64 0, .int .i64 0, .int .i64 0, .slice none 0 0] 108)).alloc (.cells (zerosI pg) 3)) (.cells #[.pointer (some ⟨r, 0, none⟩), .int .i64 (frm : Int), .slice (some ⟨w.heap.size + 1, 0, none⟩) pg pg, .int .i64 0, .int .i64 (-1), .int .i64 1, .slice none 0 0, .bool false] 164)
    have hz : (w.alloc (.cells #[.int .i64 0, .int .i64 0, .int .i64 0, .slice none 0 0] 108)).heap.size = w.heap.size + 1 := by simp
    have hz2 : ((w.alloc (.cells #[.int .i64 0, .int .i64 0, .int .i64 0, .slice none 0 0] 108)).alloc (.cells (zerosI pg) 3)).heap.size = w.heap.size + 1 + 1 := by simp
    refine ⟨⟨.slice (some ⟨w.heap.size + 1, 0, none⟩) pg pg, .slice none 0 0, ⟨?_, by omega, ?_, OwnB.nil _ _, zeros4096_length, hpg4, hpg1⟩, fun k hk => ?_, fun k hk => by cases hk⟩, ?_, ?_⟩
    · rw [hW2, ← hz2]; exact heap_alloc_new _ _
    · rw [hW2, isVs_zeros (P := ⟨frm, pg, zeros4096, bestAt pg frm D 0, false⟩)]
      refine owns_mod ?_ mm (fun _ _ => id)
      rw [hz] at hown
      simpa [zerosI] using hown
    · have : w.heap.size + 1 = k := by simpa [Value.ownBlock] using hk
      omega
    · rw [hW2]; exact ((Mod.alloc _ _ _).trans' (Mod.alloc _ _ _)).trans' (Mod.alloc _ _ _)
    · rw [hW2]
      refine mm.obj ?_ id
      exact heap_alloc2_old _ _ _
  rw [← hW2]
  clear hW2 c0 km a1 a2 a3 a4 w1 top
  go_loopw [10] (fun v10 wr => ∃ i : Nat, i ≤ 2 ∧ v10 = .int .i64 (i : Int) ∧ ROpI w r frm pg D i wr) (fun v10 _ => 2 - (intOf v10).toNat)
  case atStart => exact ⟨0, by omega, rfl, I0⟩
  case round =>
    obtain ⟨i, hi, rfl, I⟩ := hrel
    by_cases hlt : i < 2
    · have hlt' : (i : Int) < 2 := by omega
      have w1 : IntKind.i64.wrap ((frm : Int) + (i : Int)) = (frm : Int) + (i : Int) := by have := HD.out.wf.top; exact IntWalk.i64_in _ (by omega)
      have hn : frm + i < D.N := by have := HSZ.out; omega
      have hwr : D.wrong ((frm : Int) + (i : Int)) = 0 := by unfold Dsk.wrong; rw [if_neg (by omega)]
      obtain ⟨s, hs⟩ : ∃ s, s = sector D.now (frm + i) := ⟨_, rfl⟩
      have hsl : s.length = 256 := by rw [hs]; exact sector_length _ _ _ (by rw [HD.out.wf.now]; exact Nat.le_of_eq HD.out.wf.len.symm) hn
      have KR : Calls Try.prog 94 #[.pointer (some ⟨r, 0, none⟩), .int .i64 ((frm : Int) + (i : Int))] wr fun e w'' => ∃ g cap, e = .returned (.tuple #[.slice (some ⟨g, 0, none⟩) 256 cap, .int .i64 0]) ∧ OwnB w'' w.heap.size (.slice (some ⟨g, 0, none⟩) 256 cap) s ∧ 256 ≤ cap ∧ Mod (fun _ => False) wr w'' :=
        ((HD.out.mod I.m (fun _ _ => id)).read ((frm : Int) + (i : Int)) w.heap.size I.m.size hlim).mono fun e w'' ⟨v, he, ho, hm', _⟩ => by
          rw [hwr] at he
          rw [hwr, if_pos rfl, show ((frm : Int) + (i : Int)).toNat = frm + i by omega, ← hs] at ho
          obtain ⟨g, cap, cur, ev, -, -, hle, -⟩ := ho.row (by intro e; rw [e] at hsl; cases hsl)
          rw [hsl] at ev hle
          subst ev
          exact ⟨g, cap, he, ho, hle, hm'⟩
      replace KR := Lib.hid KR
      have HS := Lib.hid hs
      have HSL := Lib.hid hsl
      have II := Lib.hid I
      clear I I0 hs hsl hwr
      go_wp2_with fail
      refine KR.out.mono ?_
      rintro e w2 ⟨g, cap, rfl, ho2, hcap, m2⟩
      have KB := rback5_any ho2 HSL.out hcap pg hpg4
      rw [HS.out] at KB
      replace KB := Lib.hid KB
      have M2 := Lib.hid m2
      clear ho2 m2 KR
      go_wp2_with fail
      refine KB.out.mono ?_
      rintro e w3 ⟨hS, m3⟩
      have I3 := II.out.mod (M2.out.trans' m3)
      have mz := M2.out.trans' m3
      have hz2 := M2.out.size
      clear M2 KB m3 hcap
      rcases hS with ⟨hno, rfl⟩ | ⟨R, v, hsome, rfl, ho⟩
      · unfold zeroRt
        have I4 := I3.mod (Mod.alloc _ _ (.cells #[.int .i64 0, .int .i64 0, .int .i64 0, .slice none 0 0] 108))
        have I5 := I4.skip (by rw [bestAt, hno]; rfl)
        have HI := Lib.hid I5
        clear I5 I4 I3 hno mz II
        go_upto_region 9 with fail
        go_quiet (fail)
        go_wp2_with fail
        go_roundw
        case rel => exact ⟨i + 1, by omega, by go_num, HI.out.mod (Mod.drewN _ _ _)⟩
        case measure => simp [intOf]; omega
      · obtain ⟨av, cv, rfl, -, -, -⟩ := ho.shape
        unfold rootV
        obtain ⟨vi3, vm3, hp3, hvi3, -⟩ := I3.pg
        obtain ⟨W4, hW4⟩ : ∃ W4, W4 = w3.alloc (.cells #[.int .i64 (R.gen : Int), .int .i64 R.page, .int .i64 (R.next : Int), .slice av R.mt.length cv] 108) := ⟨_, rfl⟩
        have m4 : Mod (fun _ => False) w3 W4 := by rw [hW4]; exact Mod.alloc _ _ _
        have k4 : W4.heap[w3.heap.size]? = some (.cells #[.int .i64 (R.gen : Int), .int .i64 R.page, .int .i64 (R.next : Int), .slice av R.mt.length cv] 108 (0, 0)) := by rw [hW4]; exact heap_alloc_new _ _
        have hmw := m4
        have I4 := I3.mod hmw
        have hp4 := hp3.mod hmw (fun _ _ => id)
        have hrz := lt_of_block II.out.r
        have ho4 := (ho.mod hmw (fun _ _ => id)).weaken (B := w.heap.size) (by omega)
        have hvn : ∀ k, (Value.slice av R.mt.length cv).ownBlock = some k → w.heap.size < k := fun k hk => by have := (World.ownsRow.lt ho k hk).1; omega
        obtain ⟨b3, hb3⟩ : ∃ b3, b3 = w3.heap.size := ⟨_, rfl⟩
        rw [← hb3] at k4
        have hg := (hp3.mod m4 (fun _ _ => id)).cell 3
        obtain ⟨rg, hrg⟩ : ∃ rg, rg = (bestAt pg frm D i).gen := ⟨_, rfl⟩
        have hg' : W4.cell? ⟨w.heap.size + 1 + 1, 3, none⟩ = some (.int .i64 (rg : Int)) := by rw [hrg]; exact hg
        have hbest : bestAt pg frm D (i + 1) = if rg < R.gen then R else bestAt pg frm D i := by
          rw [bestAt, hsome, hrg]; rfl
        have q0 : W4.cell? ⟨b3, 0, none⟩ = some (.int .i64 (R.gen : Int)) := cell_of_row W4 b3 0 _ 108 (0, 0) k4
        have HW4 := Lib.hid hW4
        have HB3 := Lib.hid hb3
        have KD := Lib.hid k4
        have HP4 := Lib.hid hp4
        have HO4 := Lib.hid ho4
        have HI4 := Lib.hid I4
        have HBEST := Lib.hid hbest
        have HVI3 := Lib.hid hvi3
        have HVN := Lib.hid hvn
        clear hW4 hb3 k4 hp4 ho4 I4 hbest hsome hp3 ho I3 mz m4 hmw II hg hrg hvi3 hvn hrz hz2
        go_upto_region 9 with fail
        rw [← HW4.out, ← HB3.out]
        by_cases hlt2 : rg < R.gen
        · have hd : decide ((rg : Int) < (R.gen : Int)) = true := decide_eq_true (by omega)
          have HBT := Lib.hid (HBEST.out.trans (if_pos hlt2))
          go_quiet (fail)
          have mq := Mod.drewN (fun _ => False) W4 nq
          have HP5 := Lib.hid (HP4.out.mod mq (fun _ _ => id))
          have HO5 := Lib.hid (HO4.out.mod mq (fun _ _ => id))
          have HI5 := Lib.hid (HI4.out.mod mq)
          have KD5 := Lib.hid (mq.obj KD.out id)
          generalize W4.drewN nq = W5 at *
          have hcb := fun j => cell_of_row W5 b3 j _ 108 (0, 0) KD5.out
          have d0 := hcb 0
          have d1 := hcb 1
          have d2 := hcb 2
          have d3 := hcb 3
          simp only [List.getElem?_toArray, List.getElem?_cons_zero, List.getElem?_cons_succ] at d0 d1 d2 d3
          have t0 := HP5.out.cell 3
          have t1 := HP5.out.cell 4
          have t2 := HP5.out.cell 5
          have t3 := HP5.out.cell 6
          simp only [rpCells, List.getElem?_toArray, List.getElem?_cons_zero, List.getElem?_cons_succ] at t0 t1 t2 t3
          have g0 := thaw_of (i := 3) HP5.out.at_
          have g1 := thaw_of (i := 4) HP5.out.at_
          have g2 := thaw_of (i := 5) HP5.out.at_
          have g3 := thaw_of (i := 6) HP5.out.at_
          have hR' := HP5.out.setRoot R HO5.out
          have hM : ∀ (w' : World) (j : Nat) (x : Value), Mod (fun k => k = w.heap.size + 1 + 1) w' (w'.setCell ⟨w.heap.size + 1 + 1, j, none⟩ x) := fun w j x => Mod.setCell _ _ _ rfl
          have hmq := (((hM W5 3 (.int .i64 (R.gen : Int))).trans' (hM _ 4 (.int .i64 R.page))).trans' (hM _ 5 (.int .i64 (R.next : Int)))).trans' (hM _ 6 (.slice av R.mt.length cv))
          have I5 : ROpI w r frm pg D (i + 1) _ := ⟨⟨vi3, _, by rw [HBT.out]; exact hR', HVI3.out, HVN.out⟩, HI5.out.m.trans hmq (fun k hk e => by omega), hmq.obj HI5.out.r (by show ¬ w.heap.size = w.heap.size + 1 + 1; omega)⟩
          have HI6 := Lib.hid I5
          clear hcb hR' hmq I5 hd hlt2 q0 hg' hM
          go_wp2_with fail
          go_roundw
          case rel => exact ⟨i + 1, by omega, by go_num, HI6.out⟩
          case measure => simp [intOf]; omega
        · have hd : decide ((rg : Int) < (R.gen : Int)) = false := decide_eq_false (by omega)
          have HBT := Lib.hid (HBEST.out.trans (if_neg hlt2))
          go_quiet (fail)
          clear hd hlt2
          go_wp2_with fail
          go_roundw
          case rel => exact ⟨i + 1, by omega, by go_num, (HI4.out.skip HBT.out).mod (Mod.drewN _ _ _)⟩
          case measure => simp [intOf]; omega
    · obtain rfl : i = 2 := by omega
      obtain ⟨vi, vm, hp, hvi, hvm⟩ := I.pg
      have hRe : bestAt pg frm D 2 = Ro := HRO.out.symm
      have hPe : (⟨frm, pg, zeros4096, bestAt pg frm D 2, false⟩ : Pgr) = Po := HPO.out.symm
      rw [hPe] at hp
      obtain ⟨av, cv, rfl, -, -, -⟩ := hp.mt.shape
      have hPr : Po.root = Ro := by rw [HPO.out, HRO.out]
      have t0 := hp.cell 3
      have t1 := hp.cell 4
      have t2 := hp.cell 5
      have t3 := hp.cell 6
      simp only [rpCells, List.getElem?_toArray, List.getElem?_cons_zero, List.getElem?_cons_succ] at t0 t1 t2 t3
      rw [hPr] at t0 t1 t2
      have hwq := lt_of_block hp.at_
      have CQ : ∀ w', Mod (fun k => k = w.heap.size) wr w' → w'.cell? ⟨w.heap.size + 1 + 1, 3, none⟩ = some (.int .i64 (Ro.gen : Int)) ∧ w'.cell? ⟨w.heap.size + 1 + 1, 4, none⟩ = some (.int .i64 Ro.page) ∧ w'.cell? ⟨w.heap.size + 1 + 1, 5, none⟩ = some (.int .i64 (Ro.next : Int)) ∧ w'.cell? ⟨w.heap.size + 1 + 1, 6, none⟩ = some (.slice av Po.root.mt.length cv) := fun w' hm =>
        have hne : ¬ w.heap.size + 1 + 1 = w.heap.size := by omega
        ⟨hm.cell' t0 hne, hm.cell' t1 hne, hm.cell' t2 hne, hm.cell' t3 hne⟩
      have mdr : Mod (fun k => k = w.heap.size) wr wr.drew := Mod.drew _ _
      have HM := Lib.hid I.m
      have kr := I.r
      have g0 := thaw_of (i := 0) kr
      have g1 := thaw_of (i := 1) kr
      have g2 := thaw_of (i := 2) kr
      have g3 := thaw_of (i := 3) kr
      have hcb := fun j => cell_of_row wr w.heap.size j _ 108 (0, 0) kr
      have d0 := hcb 0
      have d1 := hcb 1
      have d2 := hcb 2
      have d3 := hcb 3
      simp only [List.getElem?_toArray, List.getElem?_cons_zero, List.getElem?_cons_succ] at d0 d1 d2 d3
      have k5 := (fun h => (Mod.drew (fun _ => False) _).obj h id) (set4' kr (.int .i64 (Ro.gen : Int)) (.int .i64 Ro.page) (.int .i64 (Ro.next : Int)) (.slice av Po.root.mt.length cv))
      have hM : ∀ (w' : World) (j : Nat) (x : Value), Mod (fun k => k = w.heap.size) w' (w'.setCell ⟨w.heap.size, j, none⟩ x) := fun w j x => Mod.setCell _ _ _ rfl
      have m6 := (((hM wr 0 (.int .i64 (Ro.gen : Int))).trans' (hM _ 1 (.int .i64 Ro.page))).trans' (hM _ 2 (.int .i64 (Ro.next : Int)))).trans' (hM _ 3 (.slice av Po.root.mt.length cv))
      have m7 := m6.trans' (Mod.drew _ _)
      have hp7 := hp.mod m7 (fun k hk e => by
        rcases hk with h | h | h
        · omega
        · have := hvi k h; omega
        · have := hvm k h; omega)
      have K5 := Lib.hid k5
      have M7 := Lib.hid m7
      have HP7 := Lib.hid hp7
      clear I I0 hp hRe hPe hPr t0 t1 t2 t3 hlt kr hcb hM k5 m6 hp7
      go_upto_region 11 with fail
      refine wp_region_held_drew (S := fun w' => w'.cell? ⟨w.heap.size + 1 + 1, 3, none⟩ = some (.int .i64 (Ro.gen : Int)) ∧ w'.cell? ⟨w.heap.size + 1 + 1, 4, none⟩ = some (.int .i64 Ro.page) ∧ w'.cell? ⟨w.heap.size + 1 + 1, 5, none⟩ = some (.int .i64 (Ro.next : Int)) ∧ w'.cell? ⟨w.heap.size + 1 + 1, 6, none⟩ = some (.slice av Po.root.mt.length cv)) (by kernel_rfl) (CQ _ mdr) (fun hHeld => ?_)
      refine wpAnyH_take (i := 0) (oi := ⟨some 84, .move (.tmp 9), 116, "ref.go:95", #[], none⟩) (v := ?_) rfl (by kernel_rfl) (by kernel_rfl) (by kernel_rfl) (fun _ _ _ h => h) (Or.inl ⟨by rfl, ?_⟩) (by assumption) ?_
      rotate_left
      · (intro w hSw; (try dsimp only at hSw); go_simp; try with_reducible rfl)
      simp only [Act.put, List.setIfInBounds_toArray, List.set_cons_zero, List.set_cons_succ]
      refine wpAnyH_take (i := 1) (oi := ⟨some 85, .move (.tmp 9), 116, "ref.go:95", #[{ on := 5, ground := Ground.gcOnly Departure.lateStores }], none⟩) (v := ?_) rfl (by kernel_rfl) (by kernel_rfl) (by kernel_rfl) (fun _ _ _ h => h) (Or.inl ⟨by rfl, ?_⟩) (by assumption) ?_
      rotate_left
      · (intro w hSw; (try dsimp only at hSw); go_simp; try with_reducible rfl)
      simp only [Act.put, List.setIfInBounds_toArray, List.set_cons_zero, List.set_cons_succ]
      refine wpAnyH_take (i := 2) (oi := ⟨some 86, .nilCheck (.tmp 85), 0, "ref.go:95", #[⟨1, .data⟩, { on := 5, ground := Ground.gcOnly Departure.lateStores }], none⟩) (v := ?_) rfl (by kernel_rfl) (by kernel_rfl) (by kernel_rfl) (fun _ _ _ h => h) (Or.inl ⟨by rfl, ?_⟩) (by assumption) ?_
      rotate_left
      · (intro w hSw; (try dsimp only at hSw); go_simp; try with_reducible rfl)
      simp only [Act.put, List.setIfInBounds_toArray, List.set_cons_zero, List.set_cons_succ]
      refine wpAnyH_take (i := 3) (oi := ⟨some 87, .fieldAddr 164 (.tmp 86) 3, 0, "ref.go:95", #[⟨2, .data⟩, { on := 5, ground := Ground.gcOnly Departure.lateStores }], none⟩) (v := ?_) rfl (by kernel_rfl) (by kernel_rfl) (by kernel_rfl) (fun _ _ _ h => h) (Or.inl ⟨by rfl, ?_⟩) (by assumption) ?_
      rotate_left
      · (intro w hSw; (try dsimp only at hSw); go_simp; try with_reducible rfl)
      simp only [Act.put, List.setIfInBounds_toArray, List.set_cons_zero, List.set_cons_succ]
      refine wpAnyH_take (i := 4) (oi := ⟨some 88, .load 108 (.tmp 87), 108, "ref.go:95", #[⟨3, .data⟩, { on := 5, ground := Ground.gcOnly Departure.lateStores }], none⟩) (v := ?_) rfl (by kernel_rfl) (by kernel_rfl) (by kernel_rfl) (fun _ _ _ h => h) (Or.inl ⟨by rfl, ?_⟩) (by assumption) ?_
      rotate_left
      · (intro w hSw; (try dsimp only at hSw); go_simp; try with_reducible rfl)
      simp only [Act.put, List.setIfInBounds_toArray, List.set_cons_zero, List.set_cons_succ]
      refine wpAnyH_take (i := 5) (oi := ⟨some 6, .assign (.tmp 84), 116, "ref.go:95", #[⟨0, .data⟩, ⟨0, .phase⟩, { on := 1, ground := Ground.textOnly Departure.lateStores }, { on := 2, ground := Ground.textOnly Departure.lateStores }, { on := 3, ground := Ground.textOnly Departure.lateStores }, { on := 4, ground := Ground.textOnly Departure.lateStores }], none⟩) (v := ?_) rfl (by kernel_rfl) (by kernel_rfl) (by kernel_rfl) (fun _ _ _ h => h) (Or.inl ⟨by rfl, ?_⟩) (by assumption) ?_
      rotate_left
      · (intro w hSw; (try dsimp only at hSw); go_simp; try with_reducible rfl)
      simp only [Act.put, List.setIfInBounds_toArray, List.set_cons_zero, List.set_cons_succ]
      refine wpAnyH_ready (rs := [6]) (by kernel_rfl) (by simp) ?_
      refine AllReadyH.cons (o := ⟨none, .store 108 (.tmp 7) (.tmp 88), 0, "ref.go:95", #[⟨4, .data⟩, ⟨5, .chain⟩, ⟨0, .phase⟩, ⟨1, .phase⟩, ⟨2, .phase⟩, ⟨3, .phase⟩, ⟨4, .phase⟩, ⟨5, .phase⟩], none⟩) rfl (fun K hK => ?_) AllReadyH.nil
      go_simp
      try simp only []
      refine hK.out _ _ (CQ _ m7) (fun _ => ?_)
      clear hK K
      try simp only [Act.put, List.setIfInBounds_toArray, List.set_cons_zero, List.set_cons_succ]
      refine wpAnyH_take (i := 7) (oi := ⟨some 8, .assign (.const (.int .i64 0)), 32, "ref.go:95", #[⟨6, .chain⟩, ⟨0, .phase⟩, ⟨1, .phase⟩, ⟨2, .phase⟩, ⟨3, .phase⟩, ⟨4, .phase⟩, ⟨5, .phase⟩, ⟨6, .phase⟩], none⟩) (v := ?_) rfl (by kernel_rfl) (by kernel_rfl) (by kernel_rfl) (fun _ _ _ h => h) (Or.inl ⟨by rfl, ?_⟩) (by assumption) ?_
      rotate_left
      · (intro w hSw; (try dsimp only at hSw); go_simp; try with_reducible rfl)
      simp only [Act.put, List.setIfInBounds_toArray, List.set_cons_zero, List.set_cons_succ]
      refine wpAnyH_done (by kernel_rfl) ?_ _
      go_wp2_with fail
      refine bodyPost_ret (results_t108t rfl _ _ rfl (RtCell.of K5.out) rfl rfl) rfl ⟨w.heap.size + 1 + 1, vi, (.slice av Po.root.mt.length cv), rfl, ?_, ?_⟩
      · exact HP7.out
      · exact HM.out.trans M7.out (fun k hk e => by omega)

set_option maxHeartbeats 1000000 in
set_option maxRecDepth 100000 in
theorem rpopen_bad {w : World} {B r : Nat} {D : Dsk} {F : Nat → Prop} (hd : RDiskAt w B r D F) (a b : Int) (hbad : a < 0 ∨ (D.N : Int) < a ∨ b < 3 ∨ (D.N : Int) - a < b) :
    Calls Try.prog 113 #[.pointer (some ⟨r, 0, none⟩), .int .i64 a, .int .i64 b] w fun e w' => e = .returned (.tuple #[.pointer none, zeroRt, .int .i64 1]) ∧ Mod (fun _ => False) w w' := by
  unfold zeroRt
  have top := hd.wf.top
  obtain ⟨vs, vl, xs, ys, hv, hF⟩ : ∃ vs vl xs ys, RV w B r vs vl xs ys D ∧ F = rfoot r vs vl xs ys := hd
  obtain ⟨x, c, rfl, hac, -, -⟩ := owns_shape hv.safe
  have c0 := hv.cell.1
  rw [hv.hx] at c0 hac
  have c0 := (Mod.alloc (fun _ => False) w (.cells #[.int .i64 0, .int .i64 0, .int .i64 0, .slice none 0 0] 108)).cell' c0 id
  have hcs : a < 0 ∨ (¬ a < 0 ∧ b < 3) ∨ (¬ a < 0 ∧ ¬ b < 3 ∧ (D.N : Int) < a) ∨ (¬ a < 0 ∧ ¬ b < 3 ∧ ¬ (D.N : Int) < a ∧ (D.N : Int) - a < b) := by omega
  clear hv hF hbad hac
  rcases hcs with h1 | ⟨h1, h2⟩ | ⟨h1, h2, h3⟩ | ⟨h1, h2, h3, h4⟩
  · go_enter Try.func113, Try.ntmps113
    go_wp2_with fail
    refine bodyPost_ret (results_t108t rfl _ _ rfl (RtCell.of (heap_alloc_new _ _)) rfl rfl) rfl ⟨rfl, Mod.alloc _ _ _⟩
  · go_enter Try.func113, Try.ntmps113
    go_wp2_with fail
    refine bodyPost_ret (results_t108t rfl _ _ rfl (RtCell.of (heap_alloc_new _ _)) rfl rfl) rfl ⟨rfl, Mod.alloc _ _ _⟩
  · go_enter Try.func113, Try.ntmps113
    go_wp2_with fail
    refine bodyPost_ret (results_t108t rfl _ _ rfl (RtCell.of (heap_alloc_new _ _)) rfl rfl) rfl ⟨rfl, Mod.alloc _ _ _⟩
  · have w1 : IntKind.i64.wrap ((D.N : Int) - a) = (D.N : Int) - a := IntWalk.i64_in _ (by omega)
    go_enter Try.func113, Try.ntmps113
    go_wp2_with fail
    refine bodyPost_ret (results_t108t rfl _ _ rfl (RtCell.of (heap_alloc_new _ _)) rfl rfl) rfl ⟨rfl, Mod.alloc _ _ _⟩
end Go.Proofs.Ytdinnkacilgmmaa
namespace Go.Proofs.Ytdinnkacilgmmaa
open Go.RowKit

set_option maxHeartbeats 1000000 in
set_option maxRecDepth 100000 in
theorem spoil_off {w : World} {H g n c : Nat} {s : List UInt8} (h : OwnB w H (.slice (some ⟨g, 0, none⟩) (n + 4) (c + 4)) s) (hn : 1 ≤ n) (hc : n ≤ c) (hm : n ≤ 100000) :
    Calls Try.prog 49 #[.slice (some ⟨g, 4, none⟩) n c] w fun e w' => e = .returned (.tuple #[]) ∧ Mod (fun k => k = g) w w' := by
  obtain ⟨hl, -⟩ := OwnB.bytes h
  have hg := (World.ownsRow.lt h g rfl).2
  have HG := Lib.hid hg
  clear hg
  go_enter Try.func49, Try.ntmps49
  go_wp2_with fail
  go_loopw [2] (fun v2 wr => ∃ (k : Nat) (l' : List UInt8), k ≤ n ∧ v2 = .int .i64 (k : Int) ∧ l'.length = n + 4 ∧ OwnB wr H (.slice (some ⟨g, 0, none⟩) (n + 4) (c + 4)) l' ∧ Mod (fun k => k = g) w wr) (fun v2 _ => n - (intOf v2).toNat)
  case atStart => exact ⟨0, s, Nat.zero_le _, rfl, hl, h, Mod.refl _ _⟩
  case round =>
    obtain ⟨k, l', hk, rfl, hl', ho, hmr⟩ := hrel
    by_cases hlt : k < n
    · obtain ⟨c0, x0, x1⟩ : ∃ c0, wr.cell? ⟨g, 4 + k, none⟩ = some (byteV c0) ∧ wr.frozen? ⟨g, 4 + k, none⟩ = false := ⟨_, ho.cellAt (4 + k) (by omega)⟩
      have hlt' : (k : Int) < (n : Int) := by omega
      have HL := Lib.hid hl'
      have HO := Lib.hid (ho.store (4 + k) 90)
      have HM := Lib.hid (hmr.trans' (Mod.setCell (F := fun k => k = g) wr ⟨g, 4 + k, none⟩ (byteV 90) rfl))
      clear hl' ho hmr h hl
      go_wp2
      go_roundw
      case rel =>
        exact ⟨k + 1, l'.set (4 + k) 90, by omega, by go_num, by simpa using HL.out, HO.out, HM.out⟩
      case measure => simp [intOf]; omega
    · obtain rfl : k = n := by omega
      have HL := Lib.hid hl'
      have HO := Lib.hid ho
      have HM := Lib.hid hmr
      obtain ⟨W1, hW1⟩ : ∃ W1, W1 = wr.alloc (.cells #[.int .u8 91] 5) := ⟨_, rfl⟩
      have m1 : Mod (fun _ => False) wr W1 := by rw [hW1]; exact Mod.alloc _ _ _
      have k1 : W1.heap[wr.heap.size]? = some (.cells #[.int .u8 91] 5 (0, 0)) := by rw [hW1]; exact heap_alloc_new _ _
      have o1 := ho.mod m1 (fun _ _ => id)
      obtain ⟨g', cap', cur, e, -, hgg, -, -, hcs, -⟩ := o1.row (by intro e; rw [e] at hl'; simp at hl')
      injection e with e1 e2 e3
      injection e1 with e1
      injection e1 with e1
      subst e1 e3
      have hbs := ((OwnB.bytes o1).2).sub 4 k
      have hbl : ((l'.drop 4).take k).length = k := by rw [List.length_take, List.length_drop]; omega
      have HGG := Lib.hid hgg
      have HCS := Lib.hid hcs
      have HW1 := Lib.hid hW1
      have HBS := Lib.hid hbs
      have HBL := Lib.hid hbl
      have M1 := Lib.hid m1
      have K1 := Lib.hid k1
      clear hl' ho hmr h hl hW1 m1 k1 o1 hgg hcs hbs hbl hlt
      have f3 : k + 1 ≤ c → (W1.cell? ⟨g, 4 + k, none⟩).isSome = true ∧ W1.frozen? ⟨g, 4 + k, none⟩ = false := fun hkc => by
        refine ⟨?_, thaw_of (i := 4 + k) HGG.out⟩
        rw [cell_of_row W1 g (4 + k) cur 5 (0, 0) HGG.out, Array.getElem?_eq_getElem (by rw [HCS.out]; omega)]
        rfl
      generalize (l'.drop 4).take k = lk at *
      have F3 := Lib.hid f3
      clear f3
      obtain ⟨i, hi, hz, hs1, hb1⟩ := info_parts info5
      go_upto_region 5 with (at_builtin; rw [← HW1.out]; refine wpList_append_arg W1 rfl _ _ 22 rfl 5 i _ 1 1 Try.underlying22 hi hz hs1 hb1 rfl (by decide) g 4 k c (lk.map byteV) rfl (by rw [List.length_map, HBL.out]; omega) ?_ ⟨wr.heap.size, 0, none⟩ 1 1 (([91] : List UInt8).map byteV) rfl rfl ?_ (bytes_oneCell [91]) ?_ (by unfold maxLen; omega) (by omega) ?_ ?_)
      · intro j u hu
        obtain ⟨ad, e, hb⟩ := bytesAt_cells HBS.out (by intro e; have := HBL.out; rw [e] at this; simp at this; omega)
        rw [Nat.zero_add] at e
        cases e
        have h9 := hb j (byteV u) (by rw [List.getElem?_map, hu]; rfl)
        rwa [Addr.add_lit] at h9
      · intro j u hu
        have := cell_of_row W1 wr.heap.size j _ 5 (0, 0) K1.out
        rw [this, List.getElem?_toArray]
        exact hu
      · intro hkc
        exact F3.out hkc
      · intro hkc
        have h1 := F3.out hkc
        obtain ⟨u, hu⟩ := Option.isSome_iff_exists.1 h1.1
        have hs : W1.setCells g (4 + k) [byteV 91] = W1.setCell ⟨g, 4 + k, none⟩ (byteV 91) := rfl
        rw [hs]
        obtain ⟨W2, hW2⟩ : ∃ W2, W2 = W1.setCell ⟨g, 4 + k, none⟩ (byteV 91) := ⟨_, rfl⟩
        have x0 : W2.cell? ⟨g, 4 + k, none⟩ = some (byteV 91) := by rw [hW2]; exact World.cell?_setCell_same _ _ _ hu
        have x1 : W2.frozen? ⟨g, 4 + k, none⟩ = false := by rw [hW2, World.frozen?_setCell]; exact h1.2
        have m2 : Mod (fun k => k = g) W1 W2 := by rw [hW2]; exact Mod.setCell _ _ _ rfl
        rw [← hW2]
        have M2 := Lib.hid m2
        have wk : IntKind.i64.wrap (((k + 1 : Nat) : Int) - 1) = (k : Int) := by rw [IntWalk.i64_in _ (by omega)]; omega
        clear hW2 m2 hs h1 hu
        go_wp2
        go_end0
        exact ⟨rfl, ((HM.out.trans M1.out (fun _ _ e => e.elim)).trans' M2.out).trans' (Mod.setCell _ _ _ rfl)⟩
      · intro hkc v' W2 hown hgrow
        have o2 : OwnB W2 W1.heap.size v' (lk ++ [91]) := by
          unfold OwnB
          rw [List.length_append, List.map_append, HBL.out]
          exact hown
        obtain ⟨g3, c3, rfl, x0, x1⟩ := own_last o2 HBL.out
        have hg3 := (World.ownsRow.lt o2 g3 rfl).1
        have M2 := Lib.hid (Mod.grown hgrow)
        have HG3 := Lib.hid hg3
        have wk : IntKind.i64.wrap (((k + 1 : Nat) : Int) - 1) = (k : Int) := by rw [IntWalk.i64_in _ (by omega)]; omega
        clear hown hgrow o2 hg3
        go_wp2
        go_end0
        refine ⟨rfl, ((HM.out.trans M1.out (fun _ _ e => e.elim)).trans M2.out (fun _ _ e => ?_)).trans (Mod.setCell (F := fun k => k = g3) _ _ _ rfl) (fun j hj e => ?_)⟩
        · cases e
        · have := HG3.out
          have := M1.out.size
          have := HM.out.size
          omega
/-- bytes within an owned row, or none -/
def SubB (w : World) (H : Nat) (v : Value) (l : List UInt8) : Prop :=
  (v = .slice none 0 0 ∧ l = []) ∨ ∃ g c n s, v = .slice (some ⟨g, 4, none⟩) n c ∧ n = 252 ∧ n ≤ c ∧ OwnB w H (.slice (some ⟨g, 0, none⟩) (n + 4) (c + 4)) s ∧ l = s.drop 4
theorem SubB.mod {w w' : World} {H : Nat} {v : Value} {l : List UInt8} (h : SubB w H v l) (hm : Mod (fun _ => False) w w') : SubB w' H v l := by
  rcases h with h | ⟨g, c, n, s, h1, h2, h3, h4, h5⟩
  · exact .inl h
  · exact .inr ⟨g, c, n, s, h1, h2, h3, h4.mod hm (fun _ _ => id), h5⟩
theorem SubB.bytes {w : World} {H : Nat} {v : Value} {l : List UInt8} (h : SubB w H v l) : ∃ a c, v = .slice a l.length c ∧ BytesAt w a l := by
  rcases h with ⟨rfl, rfl⟩ | ⟨g, c, n, s, rfl, rfl, h3, h4, rfl⟩
  · exact ⟨none, 0, rfl, BytesAt.nil _ _⟩
  · have hl := (OwnB.bytes h4).1
    have hbs := ((OwnB.bytes h4).2).sub 4 252
    rw [Nat.zero_add, List.take_of_length_le (by rw [List.length_drop, hl]; decide)] at hbs
    exact ⟨_, c, by rw [List.length_drop, hl], hbs⟩
theorem spoil_sub {w : World} {H : Nat} {v : Value} {l : List UInt8} (h : SubB w H v l) (hH : H ≤ w.heap.size) :
    Calls Try.prog 49 #[v] w fun e w' => e = .returned (.tuple #[]) ∧ Mod (fun k => H ≤ k) w w' := by
  rcases h with ⟨rfl, rfl⟩ | ⟨g, c, n, s, rfl, rfl, h3, h4, rfl⟩
  · exact (spoil_any (OwnB.nil w H) hH (by decide)).mono fun e w' ⟨h1, h2⟩ => ⟨h1, h2.mono (fun k _ e => by cases e)⟩
  · exact (spoil_off h4 (by decide) h3 (by decide)).mono fun e w' ⟨h1, h2⟩ => ⟨h1, h2.mono (fun k _ e => by have := (World.ownsRow.lt h4 g rfl).1; omega)⟩

set_option maxHeartbeats 1000000 in
set_option maxRecDepth 100000 in
theorem pread_sub {w : World} {B B2 q p : Nat} {vm : Value} {P : Pgr} {D : Dsk} {F : Nat → Prop} (hp : PgV w B q p vm P) (hd : DiskAt w B2 p D F) (hfit : P.frm + 2 + P.pages ≤ D.N) (n : Int) :
    Calls Try.prog 67 #[.pointer (some ⟨q, 0, none⟩), .int .i64 n] w fun e w' => ∃ v, e = .returned (.tuple #[v, .int .i64 (P.read D n).2]) ∧ SubB w' w.heap.size v (P.read D n).1 ∧ Mod (fun _ => False) w w' := by
  obtain ⟨o, ho⟩ : ∃ o, o = P.read D n := ⟨_, rfl⟩
  rw [← ho]
  have top := hd.wf.top
  have KT := there_any hp n
  have HO := Lib.hid ho
  clear ho
  by_cases ht : P.there n = true
  · have ht' : 0 ≤ n ∧ n < (P.pages : Int) := of_decide_eq_true ht
    obtain ⟨m, rfl⟩ : ∃ m : Nat, n = (m : Int) := ⟨n.toNat, by omega⟩
    have hn : P.frm + 2 + m < D.N := by omega
    have hwr : D.wrong ((P.frm : Int) + 2 + (m : Int)) = 0 := by unfold Dsk.wrong; rw [if_neg (by omega)]
    have KR : ∀ w', Mod (fun _ => False) w w' → Calls Try.prog 37 #[.pointer (some ⟨p, 0, none⟩), .int .i64 ((P.frm : Int) + 2 + (m : Int))] w' fun e w'' => ∃ v, e = .returned (.tuple #[v, .int .i64 0]) ∧ OwnB w'' w.heap.size v (sector D.now (P.frm + 2 + m)) ∧ Mod (fun _ => False) w w'' := fun w' hm =>
      ((hd.mod hm (fun _ _ => id)).read ((P.frm : Int) + 2 + (m : Int)) w.heap.size hm.size).mono fun e w'' ⟨v, he, ho, hm', _⟩ => ⟨v, by rw [he, hwr], by rw [hwr, if_pos rfl, show ((P.frm : Int) + 2 + (m : Int)).toNat = P.frm + 2 + m by omega] at ho; exact ho, hm.trans' hm'⟩
    have hsl : (sector D.now (P.frm + 2 + m)).length = 256 := sector_length _ _ _ (by rw [hd.wf.now]; exact Nat.le_of_eq hd.wf.len.symm) hn
    have ho2 := HO.out
    unfold Pgr.read at ho2
    rw [if_pos ht, Int.toNat_natCast] at ho2
    rw [ht] at KT
    have c0 := hp.head.1
    have c1 := hp.head.2.1
    replace KR := Lib.hid KR
    replace KT := Lib.hid KT
    have HSL := Lib.hid hsl
    have HO2 := Lib.hid ho2
    have w1 : IntKind.i64.wrap ((P.frm : Int) + 2) = (P.frm : Int) + 2 := IntWalk.i64_in _ (by omega)
    have w2 : IntKind.i64.wrap ((P.frm : Int) + 2 + (m : Int)) = (P.frm : Int) + 2 + (m : Int) := IntWalk.i64_in _ (by omega)
    clear hwr hsl hd hp ho2 HO ht ht'
    generalize sector D.now (P.frm + 2 + m) = s at *
    go_enter Try.func67, Try.ntmps67
    go_wp2_with (first
      | (go_at_call 107; refine KT.out.mono ?_; rintro e wb ⟨rfl, rfl⟩))
    have md : Mod (fun _ => False) w w.drew := Mod.drew _ _
    go_region_held3 (fun w' => w'.cell? ⟨q, 0, none⟩ = some (.pointer (some ⟨p, 0, none⟩)) ∧ w'.cell? ⟨q, 1, none⟩ = some (.int .i64 (P.frm : Int))) (first | (refine ⟨?_, ?_⟩ <;> simpa using (by assumption)) | exact ⟨hmb.cell' c0 id, hmb.cell' c1 id⟩)
      ((go_at_call 37; refine (KR.out _ (by assumption)).mono ?_; rintro e wb ⟨v, rfl, hob, hmb⟩))
    obtain ⟨g, cap, cur, ev, -, hgg, hle, -⟩ := hob.row (by intro e; have := HSL.out; rw [e] at this; cases this)
    rw [HSL.out] at ev hle
    subst ev
    have KO := Lib.hid (opened_any hob HSL.out hle)
    have HM := Lib.hid hmb
    have HOB := Lib.hid hob
    clear hob hmb hgg KR KT c0 c1
    go_wp2_with fail
    refine KO.out.mono ?_
    rintro e wc ⟨rfl, mc⟩
    have hbs := ((OwnB.bytes (HOB.out.mod mc (fun _ _ => id))).2).sub 4 252
    have e2 : (s.drop 4).take 252 = s.drop 4 := List.take_of_length_le (by rw [List.length_drop, HSL.out]; decide)
    rw [e2, Nat.zero_add] at hbs
    have hgl := World.ownsRow.lt HOB.out g rfl
    have hms := mc.size
    have MM := Lib.hid (HM.out.trans' mc)
    have HBS := Lib.hid hbs
    have HO9 := Lib.hid (show OwnB wc w.heap.size (.slice (some ⟨g, 0, none⟩) (252 + 4) (cap - 4 + 4)) s by rw [show cap - 4 + 4 = cap by omega]; exact HOB.out.mod mc (fun _ _ => id))
    cases hs : sound s
    · have hoe : o = ([], 12) := by rw [HO2.out, hs]; rfl
      subst hoe
      clear HO2 hs hbs e2 mc
      go_wp2
      go_ret2
      exact ⟨_, rfl, .inl ⟨rfl, rfl⟩, MM.out⟩
    · have hoe : o = (s.drop 4, 0) := by rw [HO2.out, hs]; rfl
      subst hoe
      have hl : (s.drop 4).length = 252 := by rw [List.length_drop, HSL.out]
      have HL := Lib.hid hl
      clear HO2 hs hbs e2 mc hl
      go_wp2
      go_ret2
      exact ⟨_, rfl, .inr ⟨g, cap - 4, 252, s, rfl, by omega, by omega, HO9.out, rfl⟩, MM.out⟩
  · have htf : P.there n = false := by simpa using ht
    rw [htf] at KT
    have hoe : o = ([], 1) := by rw [HO.out]; unfold Pgr.read; rw [htf]; rfl
    subst hoe
    replace KT := Lib.hid KT
    clear HO ht htf hp hd
    go_enter Try.func67, Try.ntmps67
    go_wp2_with (first
      | (go_at_call 107; refine KT.out.mono ?_; rintro e wb ⟨rfl, rfl⟩))
    go_ret2
    exact ⟨_, rfl, .inl ⟨rfl, rfl⟩, Mod.refl _ _⟩
end Go.Proofs.Ytdinnkacilgmmaa
namespace Go.Proofs.Ytdinnkacilgmmaa
open Go.RowKit

theorem RPg.weaken {w : World} {B B' q r : Nat} {vi vm : Value} {P : Pgr} (h : RPg w B' q r vi vm P) (hB : B ≤ B') : RPg w B q r vi vm P :=
  ⟨h.at_, Nat.le_trans hB h.hq, ⟨h.is.1, h.is.2.imp id (fun ⟨g, cap, cur, h1, h2, h3⟩ => ⟨g, cap, cur, h1, Nat.le_trans hB h2, h3⟩)⟩, h.mt.weaken hB, h.len, h.top, h.pos⟩
theorem RPg.lt {w : World} {B q r : Nat} {vi vm : Value} {P : Pgr} (h : RPg w B q r vi vm P) : ∀ k, k = q ∨ vi.ownBlock = some k ∨ vm.ownBlock = some k → B ≤ k ∧ k < w.heap.size := fun k hk => by
  rcases hk with rfl | hk | hk
  · exact ⟨h.hq, lt_of_block h.at_⟩
  · exact World.ownsRow.lt h.is k hk
  · exact World.ownsRow.lt h.mt k hk
/-- a pager of the reference as a thing -/
def RPT (B q r : Nat) (P : Pgr) : Thg B := ⟨fun w F => ∃ vi vm, RPg w B q r vi vm P ∧ F = fun k => k = q ∨ vi.ownBlock = some k ∨ vm.ownBlock = some k,
  fun {w F} h k hk => by
    obtain ⟨vi, vm, h1, rfl⟩ := h
    exact h1.lt k hk,
  fun {G w w' F} h hm hF => by
    obtain ⟨vi, vm, h1, rfl⟩ := h
    exact ⟨vi, vm, h1.mod hm hF, rfl⟩⟩

section
variable {w0 w : World} {B q r : Nat} {Ts : List (Thg B)} {P : Pgr} {D : Dsk}
theorem Apart.rpager (h : Apart w0 B Ts w) (i : Nat) (hi : Ts[i]? = some (RPT B q r P)) : ∃ vi vm, RPg w B q r vi vm P := by
  obtain ⟨F, vi, vm, h1, -⟩ := h.get i hi
  exact ⟨vi, vm, h1⟩
theorem Apart.rprelease (h : Apart w0 B Ts w) (i : Nat) (hi : Ts[i]? = some (RPT B q r P)) (n : Int) :
    Calls Try.prog 116 #[.pointer (some ⟨q, 0, none⟩), .int .i64 n] w fun e w' => e = .returned (.int .i64 (P.whyRelease n)) ∧ Apart w0 B (Ts.set i (RPT B q r (P.release n))) w' := by
  obtain ⟨F, ⟨vi, vm, hp, rfl⟩, hup⟩ := h.turn i hi
  exact (rrelease_any hp n).mono fun e w' ⟨he, hp', hm⟩ => ⟨he, hup _ _ ⟨hm.mono (fun k _ e => .inr (.inl e)), _, ⟨vi, vm, hp', rfl⟩, fun k hk => .inl hk⟩⟩
theorem Apart.rpuse (h : Apart w0 B Ts w) (i : Nat) (hi : Ts[i]? = some (RPT B q r P)) (a : Option Addr) (l : List Int) (n cap : Nat) (hn : l.length = n) (hll : l.length ≤ 140737488355328) (hl : IntsAt w a l) (hla : ∀ x, a = some x → l ≠ [] → x.block < B) :
    Calls Try.prog 118 #[.pointer (some ⟨q, 0, none⟩), .slice a n cap] w fun e w' => e = .returned (.int .i64 (P.whyUse l)) ∧ Apart w0 B (Ts.set i (RPT B q r (P.use l))) w' := by
  obtain ⟨F, ⟨vi, vm, hp, rfl⟩, hup⟩ := h.turn i hi
  refine (ruse_any hp h.le a l n cap hn hll hl (fun x hx hne e => by have := hla x hx hne; have := hp.hq; omega)).mono ?_
  rintro e w' ⟨he, ⟨vi', hp', hvi⟩, hm⟩
  exact ⟨he, hup _ _ ⟨hm.mono (fun k _ e => .inl e), _, ⟨vi', vm, hp', rfl⟩, fun k hk => by
    rcases hk with e | e | e
    · exact .inl (.inl e)
    · exact (hvi k e).imp (fun e => .inr (.inl e)) id
    · exact .inl (.inr (.inr e))⟩⟩
theorem RSaid.up {vi vm : Value} {Fs : Nat → Nat → Prop} {i d : Nat} {w' : World} {P' : Pgr} {D' : Dsk} (hFi : Fs i = fun k => k = q ∨ vi.ownBlock = some k ∨ vm.ownBlock = some k)
    (hup : ∀ (S' T' : Thg B) (w' : World) (F' G' : Nat → Prop), Mod (fun k => Fs i k ∨ Fs d k) w w' → S'.at_ w' F' → T'.at_ w' G' → (∀ k, F' k → ¬ G' k) → (∀ k, F' k → Fs i k ∨ w.heap.size ≤ k) → (∀ k, G' k → Fs d k ∨ w.heap.size ≤ k) → Apart w0 B ((Ts.set i S').set d T') w')
    (h : RSaid w B B q r vi vm (Fs d) P' D' w') : Apart w0 B ((Ts.set i (RPT B q r P')).set d (RDiskT B r D')) w' := by
  obtain ⟨vi', vm', G', hp', hD', hG', hvi, hvm, hq, hm⟩ := h
  refine hup _ _ _ _ _ (hm.mono (fun k _ e => ?_)) ⟨vi', vm', hp', rfl⟩ hD' (fun k hk => ?_) (fun k hk => ?_) hG'
  · rw [hFi]
    rcases e with e | e | e
    · exact .inl (.inl e)
    · exact .inl (.inr (.inl e))
    · exact .inr e
  · rcases hk with rfl | hk | hk
    · exact hq
    · exact (hvi k hk).2
    · exact (hvm k hk).2
  · rw [hFi]
    rcases hk with rfl | hk | hk
    · exact .inl (.inl rfl)
    · exact (hvi k hk).1.imp (fun e => .inr (.inl e)) id
    · exact (hvm k hk).1.imp (fun e => .inr (.inr e)) id
theorem Apart.rpwrite (h : Apart w0 B Ts w) (i d : Nat) (hi : Ts[i]? = some (RPT B q r P)) (hd : Ts[d]? = some (RDiskT B r D)) (hid : i ≠ d) (hwf : P.wf D) (hlim : D.l.length + 1 ≤ 1048576) (a : Option Addr) (b : List UInt8) (n cap : Nat) (hn : b.length = n) (ha : a = none → cap = 0) (hb : BytesAt w a b) :
    Calls Try.prog 115 #[.pointer (some ⟨q, 0, none⟩), .slice a n cap] w fun e w' => e = .returned (.tuple #[.int .i64 (P.write D b).1, .int .i64 (P.write D b).2.1]) ∧ Apart w0 B ((Ts.set i (RPT B q r (P.write D b).2.2.1)).set d (RDiskT B r (P.write D b).2.2.2)) w' := by
  obtain ⟨Fs, h1, h2, hup⟩ := h.turn2w i d hi hd hid
  obtain ⟨vi, vm, hp, hFi⟩ := h1 i _ hi
  have hil : i < Ts.length := (List.getElem?_eq_some_iff.1 hi).1
  have hdl : d < Ts.length := (List.getElem?_eq_some_iff.1 hd).1
  have hx : ∀ k, Fs d k → k ≠ q ∧ vi.ownBlock ≠ some k ∧ vm.ownBlock ≠ some k := fun k hk => by
    have := h2 d i hdl hil (Ne.symm hid) k hk
    rw [hFi] at this
    exact ⟨fun e => this (.inl e), fun e => this (.inr (.inl e)), fun e => this (.inr (.inr e))⟩
  exact (rpwrite_any hp (h1 d _ hd) hx hwf hlim a b n cap hn ha hb).mono fun e w' ⟨he, hs⟩ => ⟨he, RSaid.up hFi hup hs⟩
theorem Apart.rpflip (h : Apart w0 B Ts w) (i d : Nat) (hi : Ts[i]? = some (RPT B q r P)) (hd : Ts[d]? = some (RDiskT B r D)) (hid : i ≠ d) (hwf : P.wf D) (hlim : D.l.length + 1 ≤ 1048576) (hgen : P.root.gen + 1 < 4611686018427387904)
    (page next : Int) (am : Option Addr) (b : List UInt8) (nm cm : Nat) (hnm : b.length = nm) (hbl : b.length ≤ 140737488355328) (ham : am = none → cm = 0) (hb : BytesAt w am b)
    (a : Option Addr) (l : List Int) (n cap : Nat) (hn : l.length = n) (hll : l.length ≤ 140737488355328) (hl : IntsAt w a l) (hla : ∀ x, a = some x → l ≠ [] → x.block < B) :
    Calls Try.prog 117 #[.pointer (some ⟨q, 0, none⟩), .int .i64 page, .int .i64 next, .slice am nm cm, .slice a n cap] w fun e w' => e = .returned (.int .i64 (P.flip D page next b l).1) ∧ Apart w0 B ((Ts.set i (RPT B q r (P.flip D page next b l).2.1)).set d (RDiskT B r (P.flip D page next b l).2.2)) w' := by
  obtain ⟨Fs, h1, h2, hup⟩ := h.turn2w i d hi hd hid
  obtain ⟨vi, vm, hp, hFi⟩ := h1 i _ hi
  have hD : RDiskAt w B r D (Fs d) := h1 d _ hd
  have hil : i < Ts.length := (List.getElem?_eq_some_iff.1 hi).1
  have hdl : d < Ts.length := (List.getElem?_eq_some_iff.1 hd).1
  have hx : ∀ k, Fs d k → k ≠ q ∧ vi.ownBlock ≠ some k ∧ vm.ownBlock ≠ some k := fun k hk => by
    have := h2 d i hdl hil (Ne.symm hid) k hk
    rw [hFi] at this
    exact ⟨fun e => this (.inl e), fun e => this (.inr (.inl e)), fun e => this (.inr (.inr e))⟩
  exact (rpflip_any hp hD h.le hx hwf hlim hgen page next am b nm cm hnm hbl ham hb a l n cap hn hll hl (fun x hx hne => ⟨fun e => by have := hla x hx hne; have := hp.hq; omega, fun e => by have := hla x hx hne; have := (hD.lt _ e).1; omega⟩)).mono fun e w' ⟨he, hs⟩ => ⟨he, RSaid.up hFi hup hs⟩
end
end Go.Proofs.Ytdinnkacilgmmaa
namespace Go.Proofs.Ytdinnkacilgmmaa
open Go.RowKit

/-- the two together in memory -/
structure BW (w : World) (B x d p r q : Nat) (size : Nat) (P : Pgr) (D : Dsk) : Prop where
  row : w.heap[x]? = some (.cells #[.pointer (some ⟨d, 0, none⟩), .pointer (some ⟨p, 0, none⟩), .pointer (some ⟨r, 0, none⟩), .pointer (some ⟨q, 0, none⟩), .int .i64 (size : Int)] 118 (0, 0))
  pg : ∃ vm, PgV w B p d vm P
  rp : ∃ vi vm, RPg w B q r vi vm P
  dk : ∃ F, DiskAt w B d D F
  rd : ∃ F, RDiskAt w B r D F
theorem BW.mod {w w' : World} {B x d p r q size : Nat} {P : Pgr} {D : Dsk} (h : BW w B x d p r q size P D) (hm : Mod (fun _ => False) w w') : BW w' B x d p r q size P D := by
  obtain ⟨vm, h1⟩ := h.pg
  obtain ⟨vi, vm2, h2⟩ := h.rp
  obtain ⟨F, h3⟩ := h.dk
  obtain ⟨G, h4⟩ := h.rd
  exact ⟨hm.obj h.row id, ⟨vm, h1.mod hm (fun _ _ => id)⟩, ⟨vi, vm2, h2.mod hm (fun _ _ => id)⟩, ⟨F, h3.mod hm (fun _ _ => id)⟩, ⟨G, h4.mod hm (fun _ _ => id)⟩⟩
theorem BW.cells {w : World} {B x d p r q size : Nat} {P : Pgr} {D : Dsk} (h : BW w B x d p r q size P D) : w.cell? ⟨x, 0, none⟩ = some (.pointer (some ⟨d, 0, none⟩)) ∧ w.cell? ⟨x, 1, none⟩ = some (.pointer (some ⟨p, 0, none⟩)) ∧ w.cell? ⟨x, 2, none⟩ = some (.pointer (some ⟨r, 0, none⟩)) ∧ w.cell? ⟨x, 3, none⟩ = some (.pointer (some ⟨q, 0, none⟩)) ∧ w.cell? ⟨x, 4, none⟩ = some (.int .i64 (size : Int)) := by
  have hc := fun j => cell_of_row w x j _ 118 (0, 0) h.row
  exact ⟨hc 0, hc 1, hc 2, hc 3, hc 4⟩
/-- the reference's root, out of its cells -/
theorem RPg.root {w : World} {B q r : Nat} {vi vm : Value} {P : Pgr} (h : RPg w B q r vi vm P) : ∃ a c, BytesAt w a P.root.mt ∧ w.cell? ⟨q, 3, none⟩ = some (.int .i64 (P.root.gen : Int)) ∧ w.cell? ⟨q, 4, none⟩ = some (.int .i64 P.root.page) ∧ w.cell? ⟨q, 5, none⟩ = some (.int .i64 (P.root.next : Int)) ∧ w.cell? ⟨q, 6, none⟩ = some (.slice a P.root.mt.length c) := by
  obtain ⟨a, c, rfl, -, -, hb⟩ := h.mt.shape
  exact ⟨a, c, hb, h.cell 3, h.cell 4, h.cell 5, h.cell 6⟩

set_option maxHeartbeats 4000000 in
set_option maxRecDepth 100000 in
theorem alike5_any {w : World} {B x d p r q size : Nat} {P : Pgr} {D : Dsk} (h : BW w B x d p r q size P D) (hwf : P.wf D) (hlim : D.l.length ≤ 1048576) :
    Calls Try.prog 81 #[.pointer (some ⟨x, 0, none⟩)] w fun e w' => e = .returned (.bool true) ∧ Mod (fun _ => False) w w' := by
  obtain ⟨vm, hp⟩ := h.pg
  obtain ⟨vi, vm2, hq⟩ := h.rp
  obtain ⟨F, hd⟩ := h.dk
  obtain ⟨F2, hr⟩ := h.rd
  obtain ⟨x0, x1, x2, x3, -⟩ := h.cells
  obtain ⟨am, cm, hbm, q3, q4, q5, q6⟩ := hq.root
  have q7 := hq.cells.2.2.2
  have q2 := hq.cells.2.2.1
  obtain ⟨gi, ci, ei, -, -, -⟩ := hq.row
  rw [ei] at q2
  clear ei
  have hml := hwf.root.mt
  have hpg : P.pages ≤ 4096 := hq.top
  have KR := proot_any hp hml
  have KF : ∀ w', Mod (fun _ => False) w w' → Calls Try.prog 76 #[.pointer (some ⟨p, 0, none⟩)] w' fun e w'' => e = .returned (.int .i64 (P.empties.length : Int)) ∧ Mod (fun _ => False) w' w'' := fun w' hm => pfree_any (hp.mod hm (fun _ _ => id)) hpg
  have KG : ∀ w', Mod (fun _ => False) w w' → Calls Try.prog 119 #[.pointer (some ⟨q, 0, none⟩)] w' fun e w'' => e = .returned (.int .i64 (P.empties.length : Int)) ∧ w' = w'' := fun w' hm => rfree_any (hq.mod hm (fun _ _ => id))
  have KD : ∀ w', Mod (fun _ => False) w w' → Calls Try.prog 72 #[.pointer (some ⟨p, 0, none⟩)] w' fun e w'' => e = .returned (.bool P.dead) ∧ w' = w'' := fun w' hm => pdead_any (hp.mod hm (fun _ _ => id))
  have KI : ∀ w', Mod (fun _ => False) w w' → Calls Try.prog 93 #[.pointer (some ⟨r, 0, none⟩)] w' fun e w'' => ∃ v, e = .returned v ∧ OwnB w'' w.heap.size v D.safe ∧ Mod (fun _ => False) w' w'' ∧ ∀ k, v.ownBlock = some k → w'.heap.size ≤ k := fun w' hm => (hr.mod hm (fun _ _ => id)).image w.heap.size hm.size
  have KA : ∀ w', Mod (fun _ => False) w w' → Calls Try.prog 34 #[.pointer (some ⟨d, 0, none⟩)] w' fun e w'' => ∃ v, e = .returned v ∧ OwnB w'' w.heap.size v D.safe ∧ Mod (fun _ => False) w' w'' ∧ ∀ k, v.ownBlock = some k → w'.heap.size ≤ k := fun w' hm => (hd.mod hm (fun _ _ => id)).image w.heap.size hm.size
  have KP : ∀ (n : Int) w', Mod (fun _ => False) w w' → Calls Try.prog 67 #[.pointer (some ⟨p, 0, none⟩), .int .i64 n] w' fun e w'' => ∃ v, e = .returned (.tuple #[v, .int .i64 (P.read D n).2]) ∧ SubB w'' w'.heap.size v (P.read D n).1 ∧ Mod (fun _ => False) w' w'' := fun n w' hm => pread_sub (hp.mod hm (fun _ _ => id)) (hd.mod hm (fun _ _ => id)) hwf.fit n
  have KQ : ∀ (n : Int) w', Mod (fun _ => False) w w' → Calls Try.prog 120 #[.pointer (some ⟨q, 0, none⟩), .int .i64 n] w' fun e w'' => ∃ v, e = .returned (.tuple #[v, .int .i64 (P.read D n).2]) ∧ ViewAt w'' w'.heap.size v (P.read D n).1 ∧ Mod (fun _ => False) w' w'' := fun n w' hm => rpread_any (hq.mod hm (fun _ _ => id)) (hr.mod hm (fun _ _ => id)) hwf.fit hlim n
  have KAs : ∀ a n c w', Calls Try.prog 74 #[rootV P.root (.slice a n c)] w' fun e w'' => e = .returned (rootV P.root (.slice a n c)) ∧ Mod (fun _ => False) w' w'' := fun a n c w' => as_any P.root a n c
  have KS : ∀ a c w', BytesAt w' a P.root.mt → Mod (fun _ => False) w w' → Calls Try.prog 73 #[rootV P.root (.slice a P.root.mt.length c), rootV P.root (.slice am P.root.mt.length cm)] w' fun e w'' => e = .returned (.bool true) ∧ Mod (fun _ => False) w' w'' := fun a c w' hb hm => by
    rw [← Rt.same_self P.root]
    exact same_any P.root P.root a _ c am _ cm rfl rfl hb (hbm.mod hm (fun _ _ _ => id))
  clear hp hq hd hr hbm hwf h
  generalize P.root = R at *
  obtain ⟨G, pp, nn, mt⟩ := R
  unfold rootV at KR KAs KS
  dsimp only at KR KAs KS hml q3 q4 q5 q6
  replace KR := Lib.hid KR
  replace KF := Lib.hid KF
  replace KG := Lib.hid KG
  replace KD := Lib.hid KD
  replace KI := Lib.hid KI
  replace KA := Lib.hid KA
  replace KP := Lib.hid KP
  replace KQ := Lib.hid KQ
  replace KAs := Lib.hid KAs
  replace KS := Lib.hid KS
  go_enter Try.func81, Try.ntmps81
  go_wp2_with fail
  refine KR.out.mono ?_
  rintro e w0 ⟨v, rfl, ov, m0⟩
  obtain ⟨av, cv, rfl, -, -, -⟩ := ov.shape
  dsimp only at ov ⊢
  have MZ0 := Lib.hid m0.size
  obtain ⟨w1, hw1⟩ : ∃ w1, w1 = w0.alloc (.cells #[.int .i64 (G : Int), .int .i64 pp, .int .i64 (nn : Int), .slice av mt.length cv] 95) := ⟨_, rfl⟩
  have k3 : w1.heap[w0.heap.size]? = some (.cells #[.int .i64 (G : Int), .int .i64 pp, .int .i64 (nn : Int), .slice av mt.length cv] 95 (0, 0)) := by rw [hw1]; exact heap_alloc_new _ _
  have m1 : Mod (fun _ => False) w w1 := m0.trans' (by rw [hw1]; exact Mod.alloc _ _ _)
  have ov1 := ov.mod (show Mod (fun _ => False) w0 w1 by rw [hw1]; exact Mod.alloc _ _ _) (fun _ _ => id)
  have HW1 := Lib.hid hw1
  have K3 := Lib.hid k3
  have OV1 := Lib.hid ov1
  clear hw1 k3 ov1 ov m0 KR
  go_upto_region 2 with fail
  rw [← HW1.out]
  obtain ⟨g3, hg3⟩ : ∃ g3, g3 = w0.heap.size := ⟨_, rfl⟩
  rw [← hg3]
  have hcb := fun j => cell_of_row w1 w0.heap.size j _ 95 (0, 0) K3.out
  rw [← hg3] at hcb
  have C0 : ∀ w', Mod (fun _ => False) w1 w' → w'.cell? ⟨x, 0, none⟩ = some (.pointer (some ⟨d, 0, none⟩)) := fun w' hm => (m1.trans' hm).cell' x0 id
  have C1 : ∀ w', Mod (fun _ => False) w1 w' → w'.cell? ⟨x, 1, none⟩ = some (.pointer (some ⟨p, 0, none⟩)) := fun w' hm => (m1.trans' hm).cell' x1 id
  have C2 : ∀ w', Mod (fun _ => False) w1 w' → w'.cell? ⟨x, 2, none⟩ = some (.pointer (some ⟨r, 0, none⟩)) := fun w' hm => (m1.trans' hm).cell' x2 id
  have C3 : ∀ w', Mod (fun _ => False) w1 w' → w'.cell? ⟨x, 3, none⟩ = some (.pointer (some ⟨q, 0, none⟩)) := fun w' hm => (m1.trans' hm).cell' x3 id
  have E3 : ∀ w', Mod (fun _ => False) w1 w' → w'.cell? ⟨q, 3, none⟩ = some (.int .i64 (G : Int)) := fun w' hm => (m1.trans' hm).cell' q3 id
  have E4 : ∀ w', Mod (fun _ => False) w1 w' → w'.cell? ⟨q, 4, none⟩ = some (.int .i64 pp) := fun w' hm => (m1.trans' hm).cell' q4 id
  have E5 : ∀ w', Mod (fun _ => False) w1 w' → w'.cell? ⟨q, 5, none⟩ = some (.int .i64 (nn : Int)) := fun w' hm => (m1.trans' hm).cell' q5 id
  have E6 : ∀ w', Mod (fun _ => False) w1 w' → w'.cell? ⟨q, 6, none⟩ = some (.slice am mt.length cm) := fun w' hm => (m1.trans' hm).cell' q6 id
  have E7 : ∀ w', Mod (fun _ => False) w1 w' → w'.cell? ⟨q, 7, none⟩ = some (.bool P.dead) := fun w' hm => (m1.trans' hm).cell' q7 id
  have L0 : ∀ w', Mod (fun _ => False) w1 w' → w'.cell? ⟨g3, 0, none⟩ = some (.int .i64 (G : Int)) := fun w' hm => hm.cell' (hcb 0) id
  have L1 : ∀ w', Mod (fun _ => False) w1 w' → w'.cell? ⟨g3, 1, none⟩ = some (.int .i64 pp) := fun w' hm => hm.cell' (hcb 1) id
  have L2 : ∀ w', Mod (fun _ => False) w1 w' → w'.cell? ⟨g3, 2, none⟩ = some (.int .i64 (nn : Int)) := fun w' hm => hm.cell' (hcb 2) id
  have L3 : ∀ w', Mod (fun _ => False) w1 w' → w'.cell? ⟨g3, 3, none⟩ = some (.slice av mt.length cv) := fun w' hm => hm.cell' (hcb 3) id
  have HG3 := Lib.hid hg3
  have mdr : Mod (fun _ => False) w1 w1.drew := Mod.drew _ _
  clear hcb hg3
  go_cut [67] (fun s67 wx => s67 = .bool false ∧ Mod (fun _ => False) w1 wx)
  case first =>
    refine wp_region_held_drew (S := fun w' => Mod (fun _ => False) w1 w') (by kernel_rfl) (mdr) (fun hHeld => ?_)
    refine wpAnyH_take (i := 0) (oi := ⟨some 14, .load 95 (.tmp 3), 95, "law.go:74", #[], none⟩) (v := ?_) rfl (by kernel_rfl) (by kernel_rfl) (by kernel_rfl) (fun _ _ _ h => h) (Or.inl ⟨by rfl, ?_⟩) (by assumption) ?_
    rotate_left
    · (intro w hSw; (try dsimp only at hSw); go_simp; try with_reducible rfl)
    simp only [Act.put, List.setIfInBounds_toArray, List.set_cons_zero, List.set_cons_succ]
    refine wpAnyH_take (i := 2) (oi := ⟨some 16, .move (.tmp 0), 115, "law.go:74", #[], none⟩) (v := ?_) rfl (by kernel_rfl) (by kernel_rfl) (by kernel_rfl) (fun _ _ _ h => h) (Or.inl ⟨by rfl, ?_⟩) (by assumption) ?_
    rotate_left
    · (intro w hSw; (try dsimp only at hSw); go_simp; try with_reducible rfl)
    simp only [Act.put, List.setIfInBounds_toArray, List.set_cons_zero, List.set_cons_succ]
    refine wpAnyH_take (i := 3) (oi := ⟨some 17, .nilCheck (.tmp 16), 0, "law.go:74", #[⟨2, .data⟩], none⟩) (v := ?_) rfl (by kernel_rfl) (by kernel_rfl) (by kernel_rfl) (fun _ _ _ h => h) (Or.inl ⟨by rfl, ?_⟩) (by assumption) ?_
    rotate_left
    · (intro w hSw; (try dsimp only at hSw); go_simp; try with_reducible rfl)
    simp only [Act.put, List.setIfInBounds_toArray, List.set_cons_zero, List.set_cons_succ]
    refine wpAnyH_take (i := 4) (oi := ⟨some 18, .fieldAddr 118 (.tmp 17) 3, 0, "law.go:74", #[⟨3, .data⟩], none⟩) (v := ?_) rfl (by kernel_rfl) (by kernel_rfl) (by kernel_rfl) (fun _ _ _ h => h) (Or.inl ⟨by rfl, ?_⟩) (by assumption) ?_
    rotate_left
    · (intro w hSw; (try dsimp only at hSw); go_simp; try with_reducible rfl)
    simp only [Act.put, List.setIfInBounds_toArray, List.set_cons_zero, List.set_cons_succ]
    refine wpAnyH_take (i := 5) (oi := ⟨some 19, .load 116 (.tmp 18), 116, "law.go:74", #[⟨4, .data⟩], none⟩) (v := ?_) rfl (by kernel_rfl) (by kernel_rfl) (by kernel_rfl) (fun _ _ _ h => h) (Or.inl ⟨by rfl, ?_⟩) (by assumption) ?_
    rotate_left
    · (intro w hSw; (try dsimp only at hSw); go_simp; try with_reducible rfl)
    simp only [Act.put, List.setIfInBounds_toArray, List.set_cons_zero, List.set_cons_succ]
    refine wpAnyH_take (i := 6) (oi := ⟨some 20, .nilCheck (.tmp 19), 0, "law.go:74", #[⟨5, .data⟩], none⟩) (v := ?_) rfl (by kernel_rfl) (by kernel_rfl) (by kernel_rfl) (fun _ _ _ h => h) (Or.inl ⟨by rfl, ?_⟩) (by assumption) ?_
    rotate_left
    · (intro w hSw; (try dsimp only at hSw); go_simp; try with_reducible rfl)
    simp only [Act.put, List.setIfInBounds_toArray, List.set_cons_zero, List.set_cons_succ]
    refine wpAnyH_take (i := 7) (oi := ⟨some 21, .fieldAddr 164 (.tmp 20) 3, 0, "law.go:74", #[⟨6, .data⟩], none⟩) (v := ?_) rfl (by kernel_rfl) (by kernel_rfl) (by kernel_rfl) (fun _ _ _ h => h) (Or.inl ⟨by rfl, ?_⟩) (by assumption) ?_
    rotate_left
    · (intro w hSw; (try dsimp only at hSw); go_simp; try with_reducible rfl)
    simp only [Act.put, List.setIfInBounds_toArray, List.set_cons_zero, List.set_cons_succ]
    refine wpAnyH_take (i := 8) (oi := ⟨some 22, .load 108 (.tmp 21), 108, "law.go:74", #[⟨7, .data⟩], none⟩) (v := ?_) rfl (by kernel_rfl) (by kernel_rfl) (by kernel_rfl) (fun _ _ _ h => h) (Or.inl ⟨by rfl, ?_⟩) (by assumption) ?_
    rotate_left
    · (intro w hSw; (try dsimp only at hSw); go_simp; try with_reducible rfl)
    simp only [Act.put, List.setIfInBounds_toArray, List.set_cons_zero, List.set_cons_succ]
    refine wpAnyH_ready (rs := [1]) (by kernel_rfl) (by simp) ?_
    refine AllReadyH.cons (o := ⟨some 15, .call { callee := .value (.func 74), args := #[.tmp 14], argTypes := #[95] }, 108, "law.go:74", #[⟨0, .data⟩], none⟩) rfl (fun K hK => ?_) AllReadyH.nil
    go_simp
    refine (KAs.out av mt.length cv _).mono ?_
    rintro e wa ⟨rfl, ma0⟩
    have ma := mdr.trans' ma0
    try simp only []
    refine hK.out _ _ (ma) (fun _ => ?_)
    clear hK K
    try simp only [Act.put, List.setIfInBounds_toArray, List.set_cons_zero, List.set_cons_succ]
    refine wpAnyH_ready (rs := [9]) (by kernel_rfl) (by simp) ?_
    refine AllReadyH.cons (o := ⟨some 23, .call { callee := .value (.func 73), args := #[.tmp 15, .tmp 22], argTypes := #[108, 108] }, 4, "law.go:74", #[⟨1, .data⟩, ⟨8, .data⟩, ⟨1, .chain⟩], none⟩) rfl (fun K hK => ?_) AllReadyH.nil
    go_simp
    refine (KS.out av cv _ (((OwnB.bytes OV1.out).2).mod ma (fun _ _ _ => id)) (m1.trans' ma)).mono ?_
    rintro e wb ⟨rfl, mb0⟩
    have mb := ma.trans' mb0
    try simp only []
    refine hK.out _ _ (mb) (fun _ => ?_)
    clear hK K
    try simp only [Act.put, List.setIfInBounds_toArray, List.set_cons_zero, List.set_cons_succ]
    refine wpAnyH_take (i := 10) (oi := ⟨some 24, .unOp .not 4 (.tmp 23), 4, "law.go:74", #[⟨9, .data⟩], none⟩) (v := ?_) rfl (by kernel_rfl) (by kernel_rfl) (by kernel_rfl) (fun _ _ _ h => h) (Or.inl ⟨by rfl, ?_⟩) (by assumption) ?_
    rotate_left
    · (intro w hSw; (try dsimp only at hSw); go_simp; try with_reducible rfl)
    simp only [Act.put, List.setIfInBounds_toArray, List.set_cons_zero, List.set_cons_succ]
    refine wpAnyH_take (i := 11) (oi := ⟨some 25, .move (.tmp 24), 4, "law.go:74", #[⟨10, .data⟩, ⟨9, .chain⟩], none⟩) (v := ?_) rfl (by kernel_rfl) (by kernel_rfl) (by kernel_rfl) (fun _ _ _ h => h) (Or.inl ⟨by rfl, ?_⟩) (by assumption) ?_
    rotate_left
    · (intro w hSw; (try dsimp only at hSw); go_simp; try with_reducible rfl)
    simp only [Act.put, List.setIfInBounds_toArray, List.set_cons_zero, List.set_cons_succ]
    refine wpAnyH_take (i := 12) (oi := ⟨some 26, .move (.tmp 0), 115, "law.go:74", #[⟨11, .guard⟩], some (11, false)⟩) (v := ?_) rfl (by kernel_rfl) (by kernel_rfl) (by kernel_rfl) (fun _ _ _ h => h) (Or.inl ⟨by rfl, ?_⟩) (by assumption) ?_
    rotate_left
    · (intro w hSw; (try dsimp only at hSw); go_simp; try with_reducible rfl)
    simp only [Act.put, List.setIfInBounds_toArray, List.set_cons_zero, List.set_cons_succ]
    refine wpAnyH_take (i := 13) (oi := ⟨some 27, .nilCheck (.tmp 26), 0, "law.go:74", #[⟨12, .data⟩, ⟨11, .guard⟩], some (11, false)⟩) (v := ?_) rfl (by kernel_rfl) (by kernel_rfl) (by kernel_rfl) (fun _ _ _ h => h) (Or.inl ⟨by rfl, ?_⟩) (by assumption) ?_
    rotate_left
    · (intro w hSw; (try dsimp only at hSw); go_simp; try with_reducible rfl)
    simp only [Act.put, List.setIfInBounds_toArray, List.set_cons_zero, List.set_cons_succ]
    refine wpAnyH_take (i := 14) (oi := ⟨some 28, .fieldAddr 118 (.tmp 27) 1, 0, "law.go:74", #[⟨13, .data⟩, ⟨11, .guard⟩], some (11, false)⟩) (v := ?_) rfl (by kernel_rfl) (by kernel_rfl) (by kernel_rfl) (fun _ _ _ h => h) (Or.inl ⟨by rfl, ?_⟩) (by assumption) ?_
    rotate_left
    · (intro w hSw; (try dsimp only at hSw); go_simp; try with_reducible rfl)
    simp only [Act.put, List.setIfInBounds_toArray, List.set_cons_zero, List.set_cons_succ]
    refine wpAnyH_take (i := 15) (oi := ⟨some 29, .load 93 (.tmp 28), 93, "law.go:74", #[⟨14, .data⟩, ⟨11, .guard⟩], some (11, false)⟩) (v := ?_) rfl (by kernel_rfl) (by kernel_rfl) (by kernel_rfl) (fun _ _ _ h => h) (Or.inl ⟨by rfl, ?_⟩) (by assumption) ?_
    rotate_left
    · (intro w hSw; (try dsimp only at hSw); go_simp; try with_reducible rfl)
    simp only [Act.put, List.setIfInBounds_toArray, List.set_cons_zero, List.set_cons_succ]
    refine wpAnyH_take (i := 17) (oi := ⟨some 31, .move (.tmp 0), 115, "law.go:74", #[⟨11, .guard⟩], some (11, false)⟩) (v := ?_) rfl (by kernel_rfl) (by kernel_rfl) (by kernel_rfl) (fun _ _ _ h => h) (Or.inl ⟨by rfl, ?_⟩) (by assumption) ?_
    rotate_left
    · (intro w hSw; (try dsimp only at hSw); go_simp; try with_reducible rfl)
    simp only [Act.put, List.setIfInBounds_toArray, List.set_cons_zero, List.set_cons_succ]
    refine wpAnyH_take (i := 18) (oi := ⟨some 32, .nilCheck (.tmp 31), 0, "law.go:74", #[⟨17, .data⟩, ⟨11, .guard⟩], some (11, false)⟩) (v := ?_) rfl (by kernel_rfl) (by kernel_rfl) (by kernel_rfl) (fun _ _ _ h => h) (Or.inl ⟨by rfl, ?_⟩) (by assumption) ?_
    rotate_left
    · (intro w hSw; (try dsimp only at hSw); go_simp; try with_reducible rfl)
    simp only [Act.put, List.setIfInBounds_toArray, List.set_cons_zero, List.set_cons_succ]
    refine wpAnyH_take (i := 19) (oi := ⟨some 33, .fieldAddr 118 (.tmp 32) 3, 0, "law.go:74", #[⟨18, .data⟩, ⟨11, .guard⟩], some (11, false)⟩) (v := ?_) rfl (by kernel_rfl) (by kernel_rfl) (by kernel_rfl) (fun _ _ _ h => h) (Or.inl ⟨by rfl, ?_⟩) (by assumption) ?_
    rotate_left
    · (intro w hSw; (try dsimp only at hSw); go_simp; try with_reducible rfl)
    simp only [Act.put, List.setIfInBounds_toArray, List.set_cons_zero, List.set_cons_succ]
    refine wpAnyH_take (i := 20) (oi := ⟨some 34, .load 116 (.tmp 33), 116, "law.go:74", #[⟨19, .data⟩, ⟨11, .guard⟩], some (11, false)⟩) (v := ?_) rfl (by kernel_rfl) (by kernel_rfl) (by kernel_rfl) (fun _ _ _ h => h) (Or.inl ⟨by rfl, ?_⟩) (by assumption) ?_
    rotate_left
    · (intro w hSw; (try dsimp only at hSw); go_simp; try with_reducible rfl)
    simp only [Act.put, List.setIfInBounds_toArray, List.set_cons_zero, List.set_cons_succ]
    refine wpAnyH_ready (rs := [16]) (by kernel_rfl) (by simp) ?_
    refine AllReadyH.cons (o := ⟨some 30, .call { callee := .value (.func 76), args := #[.tmp 29], argTypes := #[93] }, 3, "law.go:74", #[⟨15, .data⟩, ⟨11, .chain⟩, ⟨11, .guard⟩], some (11, false)⟩) rfl (fun K hK => ?_) AllReadyH.nil
    go_simp
    refine (KF.out _ (m1.trans' mb)).mono ?_
    rintro e we ⟨rfl, me0⟩
    have me := mb.trans' me0
    try simp only []
    refine hK.out _ _ (me) (fun _ => ?_)
    clear hK K
    try simp only [Act.put, List.setIfInBounds_toArray, List.set_cons_zero, List.set_cons_succ]
    refine held_call (i := 21) (oi := ⟨some 35, .call { callee := .value (.func 119), args := #[.tmp 34], argTypes := #[116] }, 3, "law.go:74", #[⟨20, .data⟩, ⟨16, .chain⟩, ⟨11, .guard⟩], some (11, false)⟩) (v := (.int .i64 (P.empties.length : Int))) rfl (by kernel_rfl) (by kernel_rfl) (by kernel_rfl) (fun _ _ _ h => h) (by assumption) 119 #[.pointer (some ⟨q, 0, none⟩)] (by rfl) (fun w => by go_simp) (fun w hSw => KG.out _ (m1.trans' hSw)) ?_
    simp only [Act.put, List.setIfInBounds_toArray, List.set_cons_zero, List.set_cons_succ]
    refine wpAnyH_take (i := 22) (oi := ⟨some 36, .binOp .neq 3 (.tmp 30) (.tmp 35) 3, 4, "law.go:74", #[⟨16, .data⟩, ⟨21, .data⟩, ⟨11, .guard⟩], some (11, false)⟩) (v := ?_) rfl (by kernel_rfl) (by kernel_rfl) (by kernel_rfl) (fun _ _ _ h => h) (Or.inl ⟨by rfl, ?_⟩) (by assumption) ?_
    rotate_left
    · (intro w hSw; (try dsimp only at hSw); go_simp; try with_reducible rfl)
    simp only [Act.put, List.setIfInBounds_toArray, List.set_cons_zero, List.set_cons_succ]
    refine wpAnyH_take (i := 23) (oi := ⟨some 37, .pick (.tmp 25) (.const (.bool true)) (.tmp 36), 4, "law.go:74", #[⟨11, .data⟩, ⟨22, .data⟩], none⟩) (v := ?_) rfl (by kernel_rfl) (by kernel_rfl) (by kernel_rfl) (fun _ _ _ h => h) (Or.inl ⟨by rfl, ?_⟩) (by assumption) ?_
    rotate_left
    · (intro w hSw; (try dsimp only at hSw); go_simp; try with_reducible rfl)
    simp only [Act.put, List.setIfInBounds_toArray, List.set_cons_zero, List.set_cons_succ]
    refine wpAnyH_take (i := 24) (oi := ⟨some 38, .move (.tmp 37), 4, "law.go:74", #[⟨23, .data⟩, ⟨21, .chain⟩], none⟩) (v := ?_) rfl (by kernel_rfl) (by kernel_rfl) (by kernel_rfl) (fun _ _ _ h => h) (Or.inl ⟨by rfl, ?_⟩) (by assumption) ?_
    rotate_left
    · (intro w hSw; (try dsimp only at hSw); go_simp; try with_reducible rfl)
    simp only [Act.put, List.setIfInBounds_toArray, List.set_cons_zero, List.set_cons_succ]
    refine wpAnyH_take (i := 25) (oi := ⟨some 39, .move (.tmp 0), 115, "law.go:74", #[⟨24, .guard⟩], some (24, false)⟩) (v := ?_) rfl (by kernel_rfl) (by kernel_rfl) (by kernel_rfl) (fun _ _ _ h => h) (Or.inl ⟨by rfl, ?_⟩) (by assumption) ?_
    rotate_left
    · (intro w hSw; (try dsimp only at hSw); go_simp; try with_reducible rfl)
    simp only [Act.put, List.setIfInBounds_toArray, List.set_cons_zero, List.set_cons_succ]
    refine wpAnyH_take (i := 26) (oi := ⟨some 40, .nilCheck (.tmp 39), 0, "law.go:74", #[⟨25, .data⟩, ⟨24, .guard⟩], some (24, false)⟩) (v := ?_) rfl (by kernel_rfl) (by kernel_rfl) (by kernel_rfl) (fun _ _ _ h => h) (Or.inl ⟨by rfl, ?_⟩) (by assumption) ?_
    rotate_left
    · (intro w hSw; (try dsimp only at hSw); go_simp; try with_reducible rfl)
    simp only [Act.put, List.setIfInBounds_toArray, List.set_cons_zero, List.set_cons_succ]
    refine wpAnyH_take (i := 27) (oi := ⟨some 41, .fieldAddr 118 (.tmp 40) 1, 0, "law.go:74", #[⟨26, .data⟩, ⟨24, .guard⟩], some (24, false)⟩) (v := ?_) rfl (by kernel_rfl) (by kernel_rfl) (by kernel_rfl) (fun _ _ _ h => h) (Or.inl ⟨by rfl, ?_⟩) (by assumption) ?_
    rotate_left
    · (intro w hSw; (try dsimp only at hSw); go_simp; try with_reducible rfl)
    simp only [Act.put, List.setIfInBounds_toArray, List.set_cons_zero, List.set_cons_succ]
    refine wpAnyH_take (i := 28) (oi := ⟨some 42, .load 93 (.tmp 41), 93, "law.go:74", #[⟨27, .data⟩, ⟨24, .guard⟩], some (24, false)⟩) (v := ?_) rfl (by kernel_rfl) (by kernel_rfl) (by kernel_rfl) (fun _ _ _ h => h) (Or.inl ⟨by rfl, ?_⟩) (by assumption) ?_
    rotate_left
    · (intro w hSw; (try dsimp only at hSw); go_simp; try with_reducible rfl)
    simp only [Act.put, List.setIfInBounds_toArray, List.set_cons_zero, List.set_cons_succ]
    refine wpAnyH_take (i := 30) (oi := ⟨some 44, .move (.tmp 0), 115, "law.go:74", #[⟨24, .guard⟩], some (24, false)⟩) (v := ?_) rfl (by kernel_rfl) (by kernel_rfl) (by kernel_rfl) (fun _ _ _ h => h) (Or.inl ⟨by rfl, ?_⟩) (by assumption) ?_
    rotate_left
    · (intro w hSw; (try dsimp only at hSw); go_simp; try with_reducible rfl)
    simp only [Act.put, List.setIfInBounds_toArray, List.set_cons_zero, List.set_cons_succ]
    refine wpAnyH_take (i := 31) (oi := ⟨some 45, .nilCheck (.tmp 44), 0, "law.go:74", #[⟨30, .data⟩, ⟨24, .guard⟩], some (24, false)⟩) (v := ?_) rfl (by kernel_rfl) (by kernel_rfl) (by kernel_rfl) (fun _ _ _ h => h) (Or.inl ⟨by rfl, ?_⟩) (by assumption) ?_
    rotate_left
    · (intro w hSw; (try dsimp only at hSw); go_simp; try with_reducible rfl)
    simp only [Act.put, List.setIfInBounds_toArray, List.set_cons_zero, List.set_cons_succ]
    refine wpAnyH_take (i := 32) (oi := ⟨some 46, .fieldAddr 118 (.tmp 45) 3, 0, "law.go:74", #[⟨31, .data⟩, ⟨24, .guard⟩], some (24, false)⟩) (v := ?_) rfl (by kernel_rfl) (by kernel_rfl) (by kernel_rfl) (fun _ _ _ h => h) (Or.inl ⟨by rfl, ?_⟩) (by assumption) ?_
    rotate_left
    · (intro w hSw; (try dsimp only at hSw); go_simp; try with_reducible rfl)
    simp only [Act.put, List.setIfInBounds_toArray, List.set_cons_zero, List.set_cons_succ]
    refine wpAnyH_take (i := 33) (oi := ⟨some 47, .load 116 (.tmp 46), 116, "law.go:74", #[⟨32, .data⟩, ⟨24, .guard⟩], some (24, false)⟩) (v := ?_) rfl (by kernel_rfl) (by kernel_rfl) (by kernel_rfl) (fun _ _ _ h => h) (Or.inl ⟨by rfl, ?_⟩) (by assumption) ?_
    rotate_left
    · (intro w hSw; (try dsimp only at hSw); go_simp; try with_reducible rfl)
    simp only [Act.put, List.setIfInBounds_toArray, List.set_cons_zero, List.set_cons_succ]
    refine wpAnyH_take (i := 34) (oi := ⟨some 48, .nilCheck (.tmp 47), 0, "law.go:74", #[⟨33, .data⟩, ⟨24, .guard⟩], some (24, false)⟩) (v := ?_) rfl (by kernel_rfl) (by kernel_rfl) (by kernel_rfl) (fun _ _ _ h => h) (Or.inl ⟨by rfl, ?_⟩) (by assumption) ?_
    rotate_left
    · (intro w hSw; (try dsimp only at hSw); go_simp; try with_reducible rfl)
    simp only [Act.put, List.setIfInBounds_toArray, List.set_cons_zero, List.set_cons_succ]
    refine wpAnyH_take (i := 35) (oi := ⟨some 49, .fieldAddr 164 (.tmp 48) 4, 0, "law.go:74", #[⟨34, .data⟩, ⟨24, .guard⟩], some (24, false)⟩) (v := ?_) rfl (by kernel_rfl) (by kernel_rfl) (by kernel_rfl) (fun _ _ _ h => h) (Or.inl ⟨by rfl, ?_⟩) (by assumption) ?_
    rotate_left
    · (intro w hSw; (try dsimp only at hSw); go_simp; try with_reducible rfl)
    simp only [Act.put, List.setIfInBounds_toArray, List.set_cons_zero, List.set_cons_succ]
    refine wpAnyH_take (i := 36) (oi := ⟨some 50, .load 4 (.tmp 49), 4, "law.go:74", #[⟨35, .data⟩, ⟨24, .guard⟩], some (24, false)⟩) (v := ?_) rfl (by kernel_rfl) (by kernel_rfl) (by kernel_rfl) (fun _ _ _ h => h) (Or.inl ⟨by rfl, ?_⟩) (by assumption) ?_
    rotate_left
    · (intro w hSw; (try dsimp only at hSw); go_simp; try with_reducible rfl)
    simp only [Act.put, List.setIfInBounds_toArray, List.set_cons_zero, List.set_cons_succ]
    refine held_call (i := 29) (oi := ⟨some 43, .call { callee := .value (.func 72), args := #[.tmp 42], argTypes := #[93] }, 4, "law.go:74", #[⟨28, .data⟩, ⟨24, .chain⟩, ⟨24, .guard⟩], some (24, false)⟩) (v := (.bool P.dead)) rfl (by kernel_rfl) (by kernel_rfl) (by kernel_rfl) (fun _ _ _ h => h) (by assumption) 72 #[.pointer (some ⟨p, 0, none⟩)] (by rfl) (fun w => by go_simp) (fun w hSw => KD.out _ (m1.trans' hSw)) ?_
    simp only [Act.put, List.setIfInBounds_toArray, List.set_cons_zero, List.set_cons_succ]
    refine wpAnyH_take (i := 37) (oi := ⟨some 51, .binOp .neq 4 (.tmp 43) (.tmp 50) 4, 4, "law.go:74", #[⟨29, .data⟩, ⟨36, .data⟩, ⟨24, .guard⟩], some (24, false)⟩) (v := ?_) rfl (by kernel_rfl) (by kernel_rfl) (by kernel_rfl) (fun _ _ _ h => h) (Or.inl ⟨by rfl, ?_⟩) (by assumption) ?_
    rotate_left
    · (intro w hSw; (try dsimp only at hSw); go_simp; try with_reducible rfl)
    simp only [Act.put, List.setIfInBounds_toArray, List.set_cons_zero, List.set_cons_succ]
    refine wpAnyH_take (i := 38) (oi := ⟨some 52, .pick (.tmp 38) (.const (.bool true)) (.tmp 51), 4, "law.go:74", #[⟨24, .data⟩, ⟨37, .data⟩], none⟩) (v := ?_) rfl (by kernel_rfl) (by kernel_rfl) (by kernel_rfl) (fun _ _ _ h => h) (Or.inl ⟨by rfl, ?_⟩) (by assumption) ?_
    rotate_left
    · (intro w hSw; (try dsimp only at hSw); go_simp; try with_reducible rfl)
    simp only [Act.put, List.setIfInBounds_toArray, List.set_cons_zero, List.set_cons_succ]
    refine wpAnyH_take (i := 39) (oi := ⟨some 53, .move (.tmp 52), 4, "law.go:74", #[⟨38, .data⟩, ⟨29, .chain⟩], none⟩) (v := ?_) rfl (by kernel_rfl) (by kernel_rfl) (by kernel_rfl) (fun _ _ _ h => h) (Or.inl ⟨by rfl, ?_⟩) (by assumption) ?_
    rotate_left
    · (intro w hSw; (try dsimp only at hSw); go_simp; try with_reducible rfl)
    simp only [Act.put, List.setIfInBounds_toArray, List.set_cons_zero, List.set_cons_succ]
    refine wpAnyH_take (i := 40) (oi := ⟨some 54, .move (.tmp 0), 115, "law.go:74", #[⟨39, .guard⟩], some (39, false)⟩) (v := ?_) rfl (by kernel_rfl) (by kernel_rfl) (by kernel_rfl) (fun _ _ _ h => h) (Or.inl ⟨by rfl, ?_⟩) (by assumption) ?_
    rotate_left
    · (intro w hSw; (try dsimp only at hSw); go_simp; try with_reducible rfl)
    simp only [Act.put, List.setIfInBounds_toArray, List.set_cons_zero, List.set_cons_succ]
    refine wpAnyH_take (i := 41) (oi := ⟨some 55, .nilCheck (.tmp 54), 0, "law.go:74", #[⟨40, .data⟩, ⟨39, .guard⟩], some (39, false)⟩) (v := ?_) rfl (by kernel_rfl) (by kernel_rfl) (by kernel_rfl) (fun _ _ _ h => h) (Or.inl ⟨by rfl, ?_⟩) (by assumption) ?_
    rotate_left
    · (intro w hSw; (try dsimp only at hSw); go_simp; try with_reducible rfl)
    simp only [Act.put, List.setIfInBounds_toArray, List.set_cons_zero, List.set_cons_succ]
    refine wpAnyH_take (i := 42) (oi := ⟨some 56, .fieldAddr 118 (.tmp 55) 0, 0, "law.go:74", #[⟨41, .data⟩, ⟨39, .guard⟩], some (39, false)⟩) (v := ?_) rfl (by kernel_rfl) (by kernel_rfl) (by kernel_rfl) (fun _ _ _ h => h) (Or.inl ⟨by rfl, ?_⟩) (by assumption) ?_
    rotate_left
    · (intro w hSw; (try dsimp only at hSw); go_simp; try with_reducible rfl)
    simp only [Act.put, List.setIfInBounds_toArray, List.set_cons_zero, List.set_cons_succ]
    refine wpAnyH_take (i := 43) (oi := ⟨some 57, .load 40 (.tmp 56), 40, "law.go:74", #[⟨42, .data⟩, ⟨39, .guard⟩], some (39, false)⟩) (v := ?_) rfl (by kernel_rfl) (by kernel_rfl) (by kernel_rfl) (fun _ _ _ h => h) (Or.inl ⟨by rfl, ?_⟩) (by assumption) ?_
    rotate_left
    · (intro w hSw; (try dsimp only at hSw); go_simp; try with_reducible rfl)
    simp only [Act.put, List.setIfInBounds_toArray, List.set_cons_zero, List.set_cons_succ]
    refine wpAnyH_take (i := 46) (oi := ⟨some 60, .move (.tmp 0), 115, "law.go:74", #[⟨39, .guard⟩], some (39, false)⟩) (v := ?_) rfl (by kernel_rfl) (by kernel_rfl) (by kernel_rfl) (fun _ _ _ h => h) (Or.inl ⟨by rfl, ?_⟩) (by assumption) ?_
    rotate_left
    · (intro w hSw; (try dsimp only at hSw); go_simp; try with_reducible rfl)
    simp only [Act.put, List.setIfInBounds_toArray, List.set_cons_zero, List.set_cons_succ]
    refine wpAnyH_take (i := 47) (oi := ⟨some 61, .nilCheck (.tmp 60), 0, "law.go:74", #[⟨46, .data⟩, ⟨39, .guard⟩], some (39, false)⟩) (v := ?_) rfl (by kernel_rfl) (by kernel_rfl) (by kernel_rfl) (fun _ _ _ h => h) (Or.inl ⟨by rfl, ?_⟩) (by assumption) ?_
    rotate_left
    · (intro w hSw; (try dsimp only at hSw); go_simp; try with_reducible rfl)
    simp only [Act.put, List.setIfInBounds_toArray, List.set_cons_zero, List.set_cons_succ]
    refine wpAnyH_take (i := 48) (oi := ⟨some 62, .fieldAddr 118 (.tmp 61) 2, 0, "law.go:74", #[⟨47, .data⟩, ⟨39, .guard⟩], some (39, false)⟩) (v := ?_) rfl (by kernel_rfl) (by kernel_rfl) (by kernel_rfl) (fun _ _ _ h => h) (Or.inl ⟨by rfl, ?_⟩) (by assumption) ?_
    rotate_left
    · (intro w hSw; (try dsimp only at hSw); go_simp; try with_reducible rfl)
    simp only [Act.put, List.setIfInBounds_toArray, List.set_cons_zero, List.set_cons_succ]
    refine wpAnyH_take (i := 49) (oi := ⟨some 63, .load 60 (.tmp 62), 60, "law.go:74", #[⟨48, .data⟩, ⟨39, .guard⟩], some (39, false)⟩) (v := ?_) rfl (by kernel_rfl) (by kernel_rfl) (by kernel_rfl) (fun _ _ _ h => h) (Or.inl ⟨by rfl, ?_⟩) (by assumption) ?_
    rotate_left
    · (intro w hSw; (try dsimp only at hSw); go_simp; try with_reducible rfl)
    simp only [Act.put, List.setIfInBounds_toArray, List.set_cons_zero, List.set_cons_succ]
    refine wpAnyH_ready (rs := [44]) (by kernel_rfl) (by simp) ?_
    refine AllReadyH.cons (o := ⟨some 58, .call { callee := .value (.func 34), args := #[.tmp 57], argTypes := #[40] }, 22, "law.go:74", #[⟨43, .data⟩, ⟨39, .chain⟩, ⟨39, .guard⟩], some (39, false)⟩) rfl (fun K hK => ?_) AllReadyH.nil
    go_simp
    refine (KA.out _ (m1.trans' me)).mono ?_
    rintro e wva ⟨va, rfl, ova, nva, -⟩
    have hva := me.trans' nva
    have Sva : ∀ w', (Mod (fun _ => False) w1 w' ∧ OwnB w' w.heap.size va D.safe) → (convert 22 9 va).run Try.prog w' = .ok (.string ⟨D.safe.toArray⟩) w' := fun w' h => by
      obtain ⟨a, c, e, -, -, hb⟩ := h.2.shape
      rw [e]; exact run_str hb D.safe.length c rfl
    try simp only []
    refine hK.out _ _ (hva) (fun _ => ?_)
    refine held_more (S' := fun w' => Mod (fun _ => False) w1 w' ∧ OwnB w' w.heap.size va D.safe) (fun w' h => h.1) _ _ _ _ ?_
    have hHeld := (⟨hva, ova⟩ : Mod (fun _ => False) w1 wva ∧ OwnB wva w.heap.size va D.safe)
    clear hK K
    try simp only [Act.put, List.setIfInBounds_toArray, List.set_cons_zero, List.set_cons_succ]
    refine wpAnyH_take (i := 45) (oi := ⟨some 59, .convert 22 9 (.tmp 58), 9, "law.go:74", #[⟨44, .data⟩, ⟨39, .guard⟩], some (39, false)⟩) (v := ?_) rfl (by kernel_rfl) (by kernel_rfl) (by kernel_rfl) (fun _ _ _ h => h) (Or.inl ⟨by rfl, ?_⟩) (by assumption) ?_
    rotate_left
    · (intro w hSw; (try dsimp only at hSw); go_simp; try with_reducible rfl)
    simp only [Act.put, List.setIfInBounds_toArray, List.set_cons_zero, List.set_cons_succ]
    refine wpAnyH_ready (rs := [50]) (by kernel_rfl) (by simp) ?_
    refine AllReadyH.cons (o := ⟨some 64, .call { callee := .value (.func 93), args := #[.tmp 63], argTypes := #[60] }, 22, "law.go:74", #[⟨49, .data⟩, ⟨44, .chain⟩, ⟨39, .guard⟩], some (39, false)⟩) rfl (fun K hK => ?_) AllReadyH.nil
    go_simp
    refine (KI.out _ (m1.trans' hva)).mono ?_
    rintro e wvb ⟨vb, rfl, ovb, nvb, -⟩
    have hvb := hva.trans' nvb
    have Svb : ∀ w', (Mod (fun _ => False) w1 w' ∧ OwnB w' w.heap.size va D.safe ∧ OwnB w' w.heap.size vb D.safe) → (convert 22 9 vb).run Try.prog w' = .ok (.string ⟨D.safe.toArray⟩) w' := fun w' h => by
      obtain ⟨a, c, e, -, -, hb⟩ := h.2.2.shape
      rw [e]; exact run_str hb D.safe.length c rfl
    try simp only []
    refine hK.out _ _ ((⟨hvb, ova.mod nvb (fun _ _ => id)⟩ : Mod (fun _ => False) w1 wvb ∧ OwnB wvb w.heap.size va D.safe)) (fun _ => ?_)
    refine held_more (S' := fun w' => Mod (fun _ => False) w1 w' ∧ OwnB w' w.heap.size va D.safe ∧ OwnB w' w.heap.size vb D.safe) (fun w' h => ⟨h.1, h.2.1⟩) _ _ _ _ ?_
    have hHeld := (⟨hvb, ova.mod nvb (fun _ _ => id), ovb⟩ : Mod (fun _ => False) w1 wvb ∧ OwnB wvb w.heap.size va D.safe ∧ OwnB wvb w.heap.size vb D.safe)
    clear hK K
    try simp only [Act.put, List.setIfInBounds_toArray, List.set_cons_zero, List.set_cons_succ]
    refine wpAnyH_take (i := 51) (oi := ⟨some 65, .convert 22 9 (.tmp 64), 9, "law.go:74", #[⟨50, .data⟩, ⟨39, .guard⟩], some (39, false)⟩) (v := ?_) rfl (by kernel_rfl) (by kernel_rfl) (by kernel_rfl) (fun _ _ _ h => h) (Or.inl ⟨by rfl, ?_⟩) (by assumption) ?_
    rotate_left
    · (intro w hSw; (try dsimp only at hSw); go_simp; try with_reducible rfl)
    simp only [Act.put, List.setIfInBounds_toArray, List.set_cons_zero, List.set_cons_succ]
    refine wpAnyH_take (i := 52) (oi := ⟨some 66, .binOp .neq 9 (.tmp 59) (.tmp 65) 9, 4, "law.go:74", #[⟨45, .data⟩, ⟨51, .data⟩, ⟨39, .guard⟩], some (39, false)⟩) (v := ?_) rfl (by kernel_rfl) (by kernel_rfl) (by kernel_rfl) (fun _ _ _ h => h) (Or.inl ⟨by rfl, ?_⟩) (by assumption) ?_
    rotate_left
    · (intro w hSw; (try dsimp only at hSw); go_simp; try with_reducible rfl)
    simp only [Act.put, List.setIfInBounds_toArray, List.set_cons_zero, List.set_cons_succ]
    refine wpAnyH_take (i := 53) (oi := ⟨some 67, .pick (.tmp 53) (.const (.bool true)) (.tmp 66), 4, "law.go:74", #[⟨39, .data⟩, ⟨52, .data⟩], none⟩) (v := ?_) rfl (by kernel_rfl) (by kernel_rfl) (by kernel_rfl) (fun _ _ _ h => h) (Or.inl ⟨by rfl, ?_⟩) (by assumption) ?_
    rotate_left
    · (intro w hSw; (try dsimp only at hSw); go_simp; try with_reducible rfl)
    simp only [Act.put, List.setIfInBounds_toArray, List.set_cons_zero, List.set_cons_succ]
    refine wpAnyH_done (by kernel_rfl) ?_ _
    go_wp2_with fail
    go_meet
    exact ⟨rfl, by first | exact hHeld.1 | assumption⟩

  case rest =>
    obtain ⟨rfl, m2⟩ := hcut
    clear E3 E4 E5 E6 E7 L0 L1 L2 C0 C1 C2 C3
    have l3 := L3 _ m2
    have ho2 := OV1.out.mod m2 (fun _ _ => id)
    have m02 := m1.trans' m2
    have hsp := spoil_any ho2 m02.size (by omega)
    have HSP := Lib.hid hsp
    have HLT := Lib.hid (fun k (hk : (Value.slice av mt.length cv).ownBlock = some k) => (World.ownsRow.lt OV1.out k hk).1)
    have M02 := Lib.hid m02
    clear L3 hsp ho2 m2 m1 mdr m02 q3 q4 q5 q6 q7
    go_wp2_with fail
    refine HSP.out.mono ?_
    rintro e w3 ⟨rfl, m3⟩
    have m03 : Mod (fun _ => False) w w3 := M02.out.trans m3 (fun k hk e => by have := HLT.out k e.symm; omega)
    clear m3 HSP l3
    go_wp2_with fail
    go_loopw [4] (fun v4 wr => ∃ i : Int, -1 ≤ i ∧ i ≤ (P.pages : Int) + 1 ∧ v4 = .int .i64 i ∧ Mod (fun _ => False) w wr) (fun v4 _ => ((P.pages : Int) + 1 - intOf v4).toNat)
    case atStart => exact ⟨-1, by omega, by omega, rfl, m03⟩
    case round =>
      obtain ⟨i, hi1, hi2, rfl, hm⟩ := hrel
      clear m03
      have d1 := hm.cell' x1 id
      have d3 := hm.cell' x3 id
      have d2 := hm.cell' q2 id
      by_cases hlt : i ≤ (P.pages : Int)
      · go_wp2_with fail
        refine (KP.out i _ hm).mono ?_
        rintro e w4 ⟨vb, rfl, sb, m4⟩
        have hm4 := hm.trans' m4
        have f3 := hm4.cell' x3 id
        clear d2 d3
        go_wp2_with fail
        refine (KQ.out i _ hm4).mono ?_
        rintro e w5 ⟨vq, rfl, sq, m5⟩
        have sb5 := sb.mod m5
        obtain ⟨ab, cb, eb, hbb⟩ := sb5.bytes
        obtain ⟨aq, cq, eq, hbq, -⟩ := sq
        have hsp := spoil_sub sb5 (m4.trans' m5).size
        generalize P.read D i = o at *
        obtain ⟨sn, we⟩ := o
        dsimp only at *
        subst eb eq
        have SB := run_str hbb sn.length cb rfl
        have SQ := run_str hbq sn.length cq rfl
        have HSP := Lib.hid hsp
        have HM := Lib.hid hm
        have HM45 := Lib.hid (m4.trans' m5)
        clear hsp sb sb5 hbb hbq m4 m5 hm4 hm f3
        go_wp2_with fail
        refine HSP.out.mono ?_
        rintro e w6 ⟨rfl, m6⟩
        have hm6 : Mod (fun _ => False) w w6 := HM.out.trans' (HM45.out.trans m6 (fun k hk e => by omega))
        clear m6
        go_wp2
        go_roundw
        case rel => exact ⟨i + 1, by omega, by omega, rfl, hm6⟩
        case measure => simp [intOf]; omega
      · go_wp2
        go_ret
        exact ⟨rfl, hm⟩
end Go.Proofs.Ytdinnkacilgmmaa
namespace Go.Proofs.Ytdinnkacilgmmaa
open Go.RowKit

/-- the struct of the two -/
def xObj (d r : Nat) (vp vq : Value) (size : Int) : Obj := .cells #[.pointer (some ⟨d, 0, none⟩), vp, .pointer (some ⟨r, 0, none⟩), vq, .int .i64 size] 118 (0, 0)
theorem xObj_set {w : World} {x d r : Nat} {po qo : Option Addr} {z : Int} (h : w.heap[x]? = some (xObj d r (.pointer po) (.pointer qo) z)) (vp vq : Value) (z' : Int) :
    (((w.setCell ⟨x, 1, none⟩ vp).setCell ⟨x, 3, none⟩ vq).setCell ⟨x, 4, none⟩ (.int .i64 z')).heap[x]? = some (xObj d r vp vq z') :=
  setCell_block (setCell_block (setCell_block h vp) vq) (.int .i64 z')

set_option maxHeartbeats 4000000 in
set_option maxRecDepth 100000 in
theorem open5_ok {w : World} {B x d r : Nat} {po qo : Option Addr} {z : Int} {D : Dsk} {F F2 : Nat → Prop} (hx : w.heap[x]? = some (xObj d r (.pointer po) (.pointer qo) z)) (hd : DiskAt w B d D F) (hr : RDiskAt w B r D F2) (hlim : D.l.length ≤ 1048576)
    (frm size : Nat) (hf : frm ≤ D.N) (hs3 : 3 ≤ size) (hsz : size ≤ D.N - frm) :
    Calls Try.prog 79 #[.pointer (some ⟨x, 0, none⟩), .int .i64 (frm : Int), .int .i64 (size : Int)] w fun e w' => e = .returned (.bool true) ∧ ∃ p q vm vi vm2 C, PgV w' w.heap.size p d vm (Pgr.opened frm size D) ∧ RPg w' C q r vi vm2 (Pgr.opened frm size D) ∧
      p < C ∧ (∀ k, vm.ownBlock = some k → k < C) ∧ w.heap.size ≤ C ∧ w'.heap[x]? = some (xObj d r (.pointer (some ⟨p, 0, none⟩)) (.pointer (some ⟨q, 0, none⟩)) (size : Int)) ∧ Mod (fun k => k = x) w w' := by
  have hxw := lt_of_block hx
  have hc := fun j => cell_of_row w x j _ 118 (0, 0) hx
  have x0 : w.cell? ⟨x, 0, none⟩ = some (.pointer (some ⟨d, 0, none⟩)) := hc 0
  have x2 : w.cell? ⟨x, 2, none⟩ = some (.pointer (some ⟨r, 0, none⟩)) := hc 2
  have top := hd.wf.top
  have hml : (Pgr.opened frm size D).root.mt.length ≤ 100 := (bestAt_ok (frm := frm) (D := D) (show size - 2 ≤ 4096 by omega) 2).mt
  have K1 := popen_ok hd frm size hf hs3 hsz
  have K2 : ∀ w', Mod (fun _ => False) w w' → _ := fun w' hm => rpopen_ok (hr.mod hm (fun _ _ => id)) hlim frm size hf hs3 hsz
  have HX := Lib.hid hx
  generalize Pgr.opened frm size D = P at *
  obtain ⟨R, hR⟩ : ∃ R, R = P.root := ⟨_, rfl⟩
  have HR := Lib.hid hR
  rw [← hR] at K1 K2 hml
  obtain ⟨G, pp, nn, mt⟩ := R
  have KAs : ∀ a n c w', Calls Try.prog 74 #[rootV ⟨G, pp, nn, mt⟩ (.slice a n c)] w' fun e w'' => e = .returned (rootV ⟨G, pp, nn, mt⟩ (.slice a n c)) ∧ Mod (fun _ => False) w' w'' := fun a n c w' => as_any ⟨G, pp, nn, mt⟩ a n c
  have KS : ∀ a c b c2 w', BytesAt w' a mt → BytesAt w' b mt → Calls Try.prog 73 #[rootV ⟨G, pp, nn, mt⟩ (.slice a mt.length c), rootV ⟨G, pp, nn, mt⟩ (.slice b mt.length c2)] w' fun e w'' => e = .returned (.bool true) ∧ Mod (fun _ => False) w' w'' := fun a c b c2 w' ha hb => by
    rw [← Rt.same_self ⟨G, pp, nn, mt⟩]
    exact same_any ⟨G, pp, nn, mt⟩ ⟨G, pp, nn, mt⟩ a _ c b _ c2 rfl rfl ha hb
  unfold rootV at K1 K2 KAs KS
  dsimp only at K1 K2 KAs KS hml
  clear hd hr hx hc hR
  replace K1 := Lib.hid K1
  replace K2 := Lib.hid K2
  replace KAs := Lib.hid KAs
  replace KS := Lib.hid KS
  go_enter Try.func79, Try.ntmps79
  go_wp2_with fail
  refine K1.out.mono ?_
  rintro e w1 ⟨p, v, vm, rfl, hp, ov, m1, hne1, hne2⟩
  obtain ⟨av, cv, rfl, -, -, -⟩ := ov.shape
  dsimp only at ov ⊢
  obtain ⟨W1, hW1⟩ : ∃ W1, W1 = w1.alloc (.cells #[.int .i64 (G : Int), .int .i64 pp, .int .i64 (nn : Int), .slice av mt.length cv] 95) := ⟨_, rfl⟩
  have k1 : W1.heap[w1.heap.size]? = some (.cells #[.int .i64 (G : Int), .int .i64 pp, .int .i64 (nn : Int), .slice av mt.length cv] 95 (0, 0)) := by rw [hW1]; exact heap_alloc_new _ _
  have ma : Mod (fun _ => False) w1 W1 := by rw [hW1]; exact Mod.alloc _ _ _
  have mW1 := m1.trans' ma
  have y2 := mW1.cell' x2 id
  have HW1 := Lib.hid hW1
  have KK1 := Lib.hid k1
  have HMA := Lib.hid ma
  have OV1 := Lib.hid (ov.mod ma (fun _ _ => id))
  have M1 := Lib.hid m1
  have MW1 := Lib.hid mW1
  have Z1 := Lib.hid (show W1.heap.size = w1.heap.size + 1 by rw [hW1]; simp)
  have HP := Lib.hid hp
  have HNE := Lib.hid (⟨hne1, hne2⟩ : _ ∧ _)
  clear hW1 k1 ma ov x0 x2 m1 mW1 hp hne1 hne2
  go_upto_region 2 with fail
  rw [← HW1.out]
  go_wp2_with fail
  refine (K2.out _ MW1.out).mono ?_
  rintro e w2 ⟨q, vi, vq, rfl, hq, m2⟩
  have hqm := hq.mt
  rw [← HR.out] at hqm
  obtain ⟨a2, c2, rfl, -, -, b2⟩ := hqm.shape
  dsimp only at b2 ⊢
  have HQ := Lib.hid hq
  clear hq hqm
  obtain ⟨w3, hw3⟩ : ∃ w3, w3 = w2.alloc (.cells #[.int .i64 (G : Int), .int .i64 pp, .int .i64 (nn : Int), .slice a2 mt.length c2] 108) := ⟨_, rfl⟩
  have k3 : w3.heap[w2.heap.size]? = some (.cells #[.int .i64 (G : Int), .int .i64 pp, .int .i64 (nn : Int), .slice a2 mt.length c2] 108 (0, 0)) := by rw [hw3]; exact heap_alloc_new _ _
  have mb : Mod (fun _ => False) w2 w3 := by rw [hw3]; exact Mod.alloc _ _ _
  have m23 := m2.trans' mb
  have HW3 := Lib.hid hw3
  have b3 := b2.mod mb (fun _ _ _ => id)
  have hcb := fun j => cell_of_row w3 w2.heap.size j _ 108 (0, 0) k3
  have hca := fun j => cell_of_row w3 w1.heap.size j _ 95 (0, 0) (m23.obj KK1.out id)
  obtain ⟨g8, hg8⟩ : ∃ g8, g8 = w1.heap.size := ⟨_, rfl⟩
  obtain ⟨g11, hg11⟩ : ∃ g11, g11 = w2.heap.size := ⟨_, rfl⟩
  rw [← hg8] at hca
  rw [← hg11] at hcb
  have A0 : ∀ w', Mod (fun _ => False) w3 w' → w'.cell? ⟨g8, 0, none⟩ = some (.int .i64 (G : Int)) := fun w' hm => hm.cell' (hca 0) id
  have A1 : ∀ w', Mod (fun _ => False) w3 w' → w'.cell? ⟨g8, 1, none⟩ = some (.int .i64 pp) := fun w' hm => hm.cell' (hca 1) id
  have A2 : ∀ w', Mod (fun _ => False) w3 w' → w'.cell? ⟨g8, 2, none⟩ = some (.int .i64 (nn : Int)) := fun w' hm => hm.cell' (hca 2) id
  have A3 : ∀ w', Mod (fun _ => False) w3 w' → w'.cell? ⟨g8, 3, none⟩ = some (.slice av mt.length cv) := fun w' hm => hm.cell' (hca 3) id
  have B0 : ∀ w', Mod (fun _ => False) w3 w' → w'.cell? ⟨g11, 0, none⟩ = some (.int .i64 (G : Int)) := fun w' hm => hm.cell' (hcb 0) id
  have B1 : ∀ w', Mod (fun _ => False) w3 w' → w'.cell? ⟨g11, 1, none⟩ = some (.int .i64 pp) := fun w' hm => hm.cell' (hcb 1) id
  have B2 : ∀ w', Mod (fun _ => False) w3 w' → w'.cell? ⟨g11, 2, none⟩ = some (.int .i64 (nn : Int)) := fun w' hm => hm.cell' (hcb 2) id
  have B3 : ∀ w', Mod (fun _ => False) w3 w' → w'.cell? ⟨g11, 3, none⟩ = some (.slice a2 mt.length c2) := fun w' hm => hm.cell' (hcb 3) id
  have M23 := Lib.hid m23
  have OV3 := Lib.hid (OV1.out.mod m23 (fun _ _ => id))
  have B3H := Lib.hid b3
  have HQ3 := Lib.hid (HQ.out.mod mb (fun _ _ => id))
  have HG8 := Lib.hid hg8
  have HG11 := Lib.hid hg11
  clear hw3 k3 mb m2 b2 b3 hcb hca hg8 hg11 y2 K2 K1
  go_upto_region 3 with fail
  rw [← HW3.out, ← HG8.out, ← HG11.out]
  have mdr : Mod (fun _ => False) w3 w3.drew := Mod.drew _ _
  go_cut [51] (fun s51 wx => s51 = .bool false ∧ Mod (fun _ => False) w3 wx)
  case first =>
    refine wp_region_held_drew (S := fun w' => Mod (fun _ => False) w3 w') (by kernel_rfl) (mdr) (fun hHeld => ?_)
    refine wpAnyH_take (i := 0) (oi := ⟨some 35, .move (.tmp 9), 32, "law.go:61", #[], none⟩) (v := ?_) rfl (by kernel_rfl) (by kernel_rfl) (by kernel_rfl) (fun _ _ _ h => h) (Or.inl ⟨by rfl, ?_⟩) (by assumption) ?_
    rotate_left
    · (intro w hSw; (try dsimp only at hSw); go_simp; try with_reducible rfl)
    simp only [Act.put, List.setIfInBounds_toArray, List.set_cons_zero, List.set_cons_succ]
    refine wpAnyH_take (i := 1) (oi := ⟨some 36, .move (.tmp 12), 32, "law.go:61", #[], none⟩) (v := ?_) rfl (by kernel_rfl) (by kernel_rfl) (by kernel_rfl) (fun _ _ _ h => h) (Or.inl ⟨by rfl, ?_⟩) (by assumption) ?_
    rotate_left
    · (intro w hSw; (try dsimp only at hSw); go_simp; try with_reducible rfl)
    simp only [Act.put, List.setIfInBounds_toArray, List.set_cons_zero, List.set_cons_succ]
    refine wpAnyH_take (i := 2) (oi := ⟨some 37, .binOp .neq 32 (.tmp 35) (.tmp 36) 32, 4, "law.go:61", #[⟨0, .data⟩, ⟨1, .data⟩], none⟩) (v := ?_) rfl (by kernel_rfl) (by kernel_rfl) (by kernel_rfl) (fun _ _ _ h => h) (Or.inl ⟨by rfl, ?_⟩) (by assumption) ?_
    rotate_left
    · (intro w hSw; (try dsimp only at hSw); go_simp; try with_reducible rfl)
    simp only [Act.put, List.setIfInBounds_toArray, List.set_cons_zero, List.set_cons_succ]
    refine wpAnyH_take (i := 3) (oi := ⟨some 38, .move (.tmp 37), 4, "law.go:61", #[⟨2, .data⟩], none⟩) (v := ?_) rfl (by kernel_rfl) (by kernel_rfl) (by kernel_rfl) (fun _ _ _ h => h) (Or.inl ⟨by rfl, ?_⟩) (by assumption) ?_
    rotate_left
    · (intro w hSw; (try dsimp only at hSw); go_simp; try with_reducible rfl)
    simp only [Act.put, List.setIfInBounds_toArray, List.set_cons_zero, List.set_cons_succ]
    refine wpAnyH_take (i := 4) (oi := ⟨some 39, .move (.tmp 7), 93, "law.go:61", #[⟨3, .guard⟩], some (3, false)⟩) (v := ?_) rfl (by kernel_rfl) (by kernel_rfl) (by kernel_rfl) (fun _ _ _ h => h) (Or.inl ⟨by rfl, ?_⟩) (by assumption) ?_
    rotate_left
    · (intro w hSw; (try dsimp only at hSw); go_simp; try with_reducible rfl)
    simp only [Act.put, List.setIfInBounds_toArray, List.set_cons_zero, List.set_cons_succ]
    refine wpAnyH_take (i := 5) (oi := ⟨some 40, .binOp .eql 93 (.tmp 39) (.const (.pointer none)) 93, 4, "law.go:61", #[⟨4, .data⟩, ⟨3, .guard⟩], some (3, false)⟩) (v := ?_) rfl (by kernel_rfl) (by kernel_rfl) (by kernel_rfl) (fun _ _ _ h => h) (Or.inl ⟨by rfl, ?_⟩) (by assumption) ?_
    rotate_left
    · (intro w hSw; (try dsimp only at hSw); go_simp; try with_reducible rfl)
    simp only [Act.put, List.setIfInBounds_toArray, List.set_cons_zero, List.set_cons_succ]
    refine wpAnyH_take (i := 6) (oi := ⟨some 41, .move (.tmp 12), 32, "law.go:61", #[⟨3, .guard⟩], some (3, false)⟩) (v := ?_) rfl (by kernel_rfl) (by kernel_rfl) (by kernel_rfl) (fun _ _ _ h => h) (Or.inl ⟨by rfl, ?_⟩) (by assumption) ?_
    rotate_left
    · (intro w hSw; (try dsimp only at hSw); go_simp; try with_reducible rfl)
    simp only [Act.put, List.setIfInBounds_toArray, List.set_cons_zero, List.set_cons_succ]
    refine wpAnyH_take (i := 7) (oi := ⟨some 42, .binOp .neq 32 (.tmp 41) (.const (.int .i64 0)) 32, 4, "law.go:61", #[⟨6, .data⟩, ⟨3, .guard⟩], some (3, false)⟩) (v := ?_) rfl (by kernel_rfl) (by kernel_rfl) (by kernel_rfl) (fun _ _ _ h => h) (Or.inl ⟨by rfl, ?_⟩) (by assumption) ?_
    rotate_left
    · (intro w hSw; (try dsimp only at hSw); go_simp; try with_reducible rfl)
    simp only [Act.put, List.setIfInBounds_toArray, List.set_cons_zero, List.set_cons_succ]
    refine wpAnyH_take (i := 8) (oi := ⟨some 43, .binOp .neq 4 (.tmp 40) (.tmp 42) 4, 4, "law.go:61", #[⟨5, .data⟩, ⟨7, .data⟩, ⟨3, .guard⟩], some (3, false)⟩) (v := ?_) rfl (by kernel_rfl) (by kernel_rfl) (by kernel_rfl) (fun _ _ _ h => h) (Or.inl ⟨by rfl, ?_⟩) (by assumption) ?_
    rotate_left
    · (intro w hSw; (try dsimp only at hSw); go_simp; try with_reducible rfl)
    simp only [Act.put, List.setIfInBounds_toArray, List.set_cons_zero, List.set_cons_succ]
    refine wpAnyH_take (i := 9) (oi := ⟨some 44, .pick (.tmp 38) (.const (.bool true)) (.tmp 43), 4, "law.go:61", #[⟨3, .data⟩, ⟨8, .data⟩], none⟩) (v := ?_) rfl (by kernel_rfl) (by kernel_rfl) (by kernel_rfl) (fun _ _ _ h => h) (Or.inl ⟨by rfl, ?_⟩) (by assumption) ?_
    rotate_left
    · (intro w hSw; (try dsimp only at hSw); go_simp; try with_reducible rfl)
    simp only [Act.put, List.setIfInBounds_toArray, List.set_cons_zero, List.set_cons_succ]
    refine wpAnyH_take (i := 10) (oi := ⟨some 45, .move (.tmp 44), 4, "law.go:61", #[⟨9, .data⟩, ⟨3, .chain⟩], none⟩) (v := ?_) rfl (by kernel_rfl) (by kernel_rfl) (by kernel_rfl) (fun _ _ _ h => h) (Or.inl ⟨by rfl, ?_⟩) (by assumption) ?_
    rotate_left
    · (intro w hSw; (try dsimp only at hSw); go_simp; try with_reducible rfl)
    simp only [Act.put, List.setIfInBounds_toArray, List.set_cons_zero, List.set_cons_succ]
    refine wpAnyH_take (i := 11) (oi := ⟨some 46, .load 95 (.tmp 8), 95, "law.go:61", #[⟨10, .guard⟩], some (10, false)⟩) (v := ?_) rfl (by kernel_rfl) (by kernel_rfl) (by kernel_rfl) (fun _ _ _ h => h) (Or.inl ⟨by rfl, ?_⟩) (by assumption) ?_
    rotate_left
    · (intro w hSw; (try dsimp only at hSw); go_simp; try with_reducible rfl)
    simp only [Act.put, List.setIfInBounds_toArray, List.set_cons_zero, List.set_cons_succ]
    refine wpAnyH_take (i := 13) (oi := ⟨some 48, .load 108 (.tmp 11), 108, "law.go:61", #[⟨10, .guard⟩], some (10, false)⟩) (v := ?_) rfl (by kernel_rfl) (by kernel_rfl) (by kernel_rfl) (fun _ _ _ h => h) (Or.inl ⟨by rfl, ?_⟩) (by assumption) ?_
    rotate_left
    · (intro w hSw; (try dsimp only at hSw); go_simp; try with_reducible rfl)
    simp only [Act.put, List.setIfInBounds_toArray, List.set_cons_zero, List.set_cons_succ]
    refine wpAnyH_ready (rs := [12]) (by kernel_rfl) (by simp) ?_
    refine AllReadyH.cons (o := ⟨some 47, .call { callee := .value (.func 74), args := #[.tmp 46], argTypes := #[95] }, 108, "law.go:61", #[⟨11, .data⟩, ⟨10, .chain⟩, ⟨10, .guard⟩], some (10, false)⟩) rfl (fun K hK => ?_) AllReadyH.nil
    go_simp
    refine (KAs.out av mt.length cv _).mono ?_
    rintro e wa ⟨rfl, ma0⟩
    have ma := mdr.trans' ma0
    try simp only []
    refine hK.out _ _ (ma) (fun _ => ?_)
    clear hK K
    try simp only [Act.put, List.setIfInBounds_toArray, List.set_cons_zero, List.set_cons_succ]
    refine wpAnyH_ready (rs := [14]) (by kernel_rfl) (by simp) ?_
    refine AllReadyH.cons (o := ⟨some 49, .call { callee := .value (.func 73), args := #[.tmp 47, .tmp 48], argTypes := #[108, 108] }, 4, "law.go:61", #[⟨12, .data⟩, ⟨13, .data⟩, ⟨12, .chain⟩, ⟨10, .guard⟩], some (10, false)⟩) rfl (fun K hK => ?_) AllReadyH.nil
    go_simp
    refine (KS.out av cv a2 c2 _ (((OwnB.bytes OV3.out).2).mod ma (fun _ _ _ => id)) (B3H.out.mod ma (fun _ _ _ => id))).mono ?_
    rintro e wb ⟨rfl, mb0⟩
    have mb := ma.trans' mb0
    try simp only []
    refine hK.out _ _ (mb) (fun _ => ?_)
    clear hK K
    try simp only [Act.put, List.setIfInBounds_toArray, List.set_cons_zero, List.set_cons_succ]
    refine wpAnyH_take (i := 15) (oi := ⟨some 50, .unOp .not 4 (.tmp 49), 4, "law.go:61", #[⟨14, .data⟩, ⟨10, .guard⟩], some (10, false)⟩) (v := ?_) rfl (by kernel_rfl) (by kernel_rfl) (by kernel_rfl) (fun _ _ _ h => h) (Or.inl ⟨by rfl, ?_⟩) (by assumption) ?_
    rotate_left
    · (intro w hSw; (try dsimp only at hSw); go_simp; try with_reducible rfl)
    simp only [Act.put, List.setIfInBounds_toArray, List.set_cons_zero, List.set_cons_succ]
    refine wpAnyH_take (i := 16) (oi := ⟨some 51, .pick (.tmp 45) (.const (.bool true)) (.tmp 50), 4, "law.go:61", #[⟨10, .data⟩, ⟨15, .data⟩], none⟩) (v := ?_) rfl (by kernel_rfl) (by kernel_rfl) (by kernel_rfl) (fun _ _ _ h => h) (Or.inl ⟨by rfl, ?_⟩) (by assumption) ?_
    rotate_left
    · (intro w hSw; (try dsimp only at hSw); go_simp; try with_reducible rfl)
    simp only [Act.put, List.setIfInBounds_toArray, List.set_cons_zero, List.set_cons_succ]
    refine wpAnyH_done (by kernel_rfl) ?_ _
    go_wp2_with fail
    go_meet
    exact ⟨rfl, mb⟩
  case rest =>
    obtain ⟨rfl, m4⟩ := hcut
    have l3 := A3 _ m4
    have m14 := M23.out.trans' m4
    have m04 := MW1.out.trans' m14
    have ho4 := OV3.out.mod m4 (fun _ _ => id)
    have HSP := Lib.hid (spoil_any ho4 m04.size (by omega))
    have HM04 := Lib.hid m04
    have HM14 := Lib.hid (HMA.out.trans' m14)
    have HLT := Lib.hid (fun k (hk : (Value.slice av mt.length cv).ownBlock = some k) => World.ownsRow.lt OV1.out k hk)
    have HQ5 := Lib.hid (HQ3.out.mod m4 (fun _ _ => id))
    clear l3 m14 m04 ho4
    have l3 := A3 _ m4
    clear A0 A1 A2 A3 B0 B1 B2 B3 m4 mdr m23
    go_wp2_with fail
    refine HSP.out.mono ?_
    rintro e w4 ⟨rfl, m5⟩
    have hx4 := m5.obj (HM04.out.obj HX.out id) (fun e => by have := (HLT.out x e.symm).1; omega)
    have hmx : Mod (fun k => k = x) w w4 := (HM04.out.mono (fun _ _ e => e.elim)).trans m5 (fun k hk e => by have := (HLT.out k e.symm).1; omega)
    have hc := fun j => cell_of_row w4 x j _ 118 (0, 0) hx4
    have c1 : w4.cell? ⟨x, 1, none⟩ = some (.pointer po) := hc 1
    have c3 : w4.cell? ⟨x, 3, none⟩ = some (.pointer qo) := hc 3
    have c4 : w4.cell? ⟨x, 4, none⟩ = some (.int .i64 z) := hc 4
    have t1 := thaw_of (i := 1) hx4
    have t3 := thaw_of (i := 3) hx4
    have t4 := thaw_of (i := 4) hx4
    have HXR := Lib.hid hx4
    have HMX := Lib.hid hmx
    have HM4 := Lib.hid (m5.mono (F := fun k => some k = (Value.slice av mt.length cv).ownBlock) (G := fun k => some k = (Value.slice av mt.length cv).ownBlock ∨ k = x) (fun _ _ e => .inl e))
    have HQ4 := Lib.hid (HQ5.out.mod m5 (fun k hk e => by have := HQ5.out.lt k hk; have := (HLT.out k e.symm).2; omega))
    clear hx4 hmx hc m5 HSP l3
    go_wp2
    go_ret
    have mx := ((Mod.setCell (F := fun k => k = x) w4 ⟨x, 1, none⟩ (.pointer (some ⟨p, 0, none⟩)) rfl).trans' (Mod.setCell _ ⟨x, 3, none⟩ (.pointer (some ⟨q, 0, none⟩)) rfl)).trans' (Mod.setCell _ ⟨x, 4, none⟩ (.int .i64 (size : Int)) rfl)
    have hz1 := Z1.out
    have hz2 := MW1.out.size
    refine ⟨rfl, p, q, vm, vi, .slice a2 mt.length c2, W1.heap.size, ?_, ?_, ?_, ?_, ?_, ?_, ?_⟩
    · exact (PgV.mod (HP.out.mod (HM14.out) (fun _ _ => id)) (HM4.out.trans' (mx.mono (fun k _ e => .inr e))) (fun k hk e => by
        rcases e with e | e
        · rcases hk with rfl | hk
          · exact HNE.out.1 e.symm
          · exact HNE.out.2 k hk.symm e.symm
        · rcases hk with hk | hk
          · have := HP.out.hq; omega
          · have := (World.ownsRow.lt HP.out.mt k hk.symm).1; omega))
    · refine RPg.mod HQ4.out mx (fun k hk e => ?_)
      subst e
      have := HQ4.out.lt _ hk
      omega
    · have := lt_of_block HP.out.at_; omega
    · intro k hk
      have := (World.ownsRow.lt HP.out.mt k hk).2; omega
    · omega
    · exact xObj_set HXR.out _ _ _
    · exact HMX.out.trans' mx

set_option maxHeartbeats 4000000 in
set_option maxRecDepth 100000 in
theorem open5_bad {w : World} {B x d r : Nat} {po qo : Option Addr} {z : Int} {D : Dsk} {F F2 : Nat → Prop} (hx : w.heap[x]? = some (xObj d r (.pointer po) (.pointer qo) z)) (hd : DiskAt w B d D F) (hr : RDiskAt w B r D F2)
    (a b : Int) (hbad : a < 0 ∨ (D.N : Int) < a ∨ b < 3 ∨ (D.N : Int) - a < b) :
    Calls Try.prog 79 #[.pointer (some ⟨x, 0, none⟩), .int .i64 a, .int .i64 b] w fun e w' => e = .returned (.bool true) ∧ w'.heap[x]? = some (xObj d r (.pointer none) (.pointer none) b) ∧ Mod (fun k => k = x) w w' := by
  have hxw := lt_of_block hx
  have hc := fun j => cell_of_row w x j _ 118 (0, 0) hx
  have x0 : w.cell? ⟨x, 0, none⟩ = some (.pointer (some ⟨d, 0, none⟩)) := hc 0
  have x2 : w.cell? ⟨x, 2, none⟩ = some (.pointer (some ⟨r, 0, none⟩)) := hc 2
  have K1 := popen_bad hd a b hbad
  have K2 : ∀ w', Mod (fun _ => False) w w' → _ := fun w' hm => rpopen_bad (hr.mod hm (fun _ _ => id)) a b hbad
  have HX := Lib.hid hx
  have KAs : ∀ a n c w', Calls Try.prog 74 #[rootV ⟨0, 0, 0, []⟩ (.slice a n c)] w' fun e w'' => e = .returned (rootV ⟨0, 0, 0, []⟩ (.slice a n c)) ∧ Mod (fun _ => False) w' w'' := fun a n c w' => as_any ⟨0, 0, 0, []⟩ a n c
  have KS : ∀ a c b c2 w', BytesAt w' a ([] : List UInt8) → BytesAt w' b ([] : List UInt8) → Calls Try.prog 73 #[rootV ⟨0, 0, 0, []⟩ (.slice a 0 c), rootV ⟨0, 0, 0, []⟩ (.slice b 0 c2)] w' fun e w'' => e = .returned (.bool true) ∧ Mod (fun _ => False) w' w'' := fun a c b c2 w' ha hb => by
    rw [← Rt.same_self ⟨0, 0, 0, []⟩]
    exact same_any ⟨0, 0, 0, []⟩ ⟨0, 0, 0, []⟩ a _ c b _ c2 rfl rfl ha hb
  unfold rootV at KAs KS
  unfold zeroRt at K1 K2
  dsimp only at K1 K2 KAs KS
  clear hd hr hx hc
  replace K1 := Lib.hid K1
  replace K2 := Lib.hid K2
  replace KAs := Lib.hid KAs
  replace KS := Lib.hid KS
  go_enter Try.func79, Try.ntmps79
  go_wp2_with fail
  refine K1.out.mono ?_
  rintro e w1 ⟨rfl, m1⟩
  have ov : OwnB w1 w.heap.size (.slice none 0 0) [] := OwnB.nil _ _
  obtain ⟨W1, hW1⟩ : ∃ W1, W1 = w1.alloc (.cells #[.int .i64 0, .int .i64 0, .int .i64 0, .slice none 0 0] 95) := ⟨_, rfl⟩
  have k1 : W1.heap[w1.heap.size]? = some (.cells #[.int .i64 0, .int .i64 0, .int .i64 0, .slice none 0 0] 95 (0, 0)) := by rw [hW1]; exact heap_alloc_new _ _
  have ma : Mod (fun _ => False) w1 W1 := by rw [hW1]; exact Mod.alloc _ _ _
  have mW1 := m1.trans' ma
  have y2 := mW1.cell' x2 id
  have HW1 := Lib.hid hW1
  have KK1 := Lib.hid k1
  have HMA := Lib.hid ma
  have OV1 := Lib.hid (ov.mod ma (fun _ _ => id))
  have M1 := Lib.hid m1
  have MW1 := Lib.hid mW1
  have Z1 := Lib.hid (show W1.heap.size = w1.heap.size + 1 by rw [hW1]; simp)
  clear hW1 k1 ma ov x0 x2 m1 mW1
  go_upto_region 2 with fail
  rw [← HW1.out]
  go_wp2_with fail
  refine (K2.out _ MW1.out).mono ?_
  rintro e w2 ⟨rfl, m2⟩
  have b2 : BytesAt w2 none [] := BytesAt.nil _ _
  obtain ⟨w3, hw3⟩ : ∃ w3, w3 = w2.alloc (.cells #[.int .i64 0, .int .i64 0, .int .i64 0, .slice none 0 0] 108) := ⟨_, rfl⟩
  have k3 : w3.heap[w2.heap.size]? = some (.cells #[.int .i64 0, .int .i64 0, .int .i64 0, .slice none 0 0] 108 (0, 0)) := by rw [hw3]; exact heap_alloc_new _ _
  have mb : Mod (fun _ => False) w2 w3 := by rw [hw3]; exact Mod.alloc _ _ _
  have m23 := m2.trans' mb
  have HW3 := Lib.hid hw3
  have b3 := b2.mod mb (fun _ _ _ => id)
  have hcb := fun j => cell_of_row w3 w2.heap.size j _ 108 (0, 0) k3
  have hca := fun j => cell_of_row w3 w1.heap.size j _ 95 (0, 0) (m23.obj KK1.out id)
  obtain ⟨g8, hg8⟩ : ∃ g8, g8 = w1.heap.size := ⟨_, rfl⟩
  obtain ⟨g11, hg11⟩ : ∃ g11, g11 = w2.heap.size := ⟨_, rfl⟩
  rw [← hg8] at hca
  rw [← hg11] at hcb
  have A0 : ∀ w', Mod (fun _ => False) w3 w' → w'.cell? ⟨g8, 0, none⟩ = some (.int .i64 0) := fun w' hm => hm.cell' (hca 0) id
  have A1 : ∀ w', Mod (fun _ => False) w3 w' → w'.cell? ⟨g8, 1, none⟩ = some (.int .i64 0) := fun w' hm => hm.cell' (hca 1) id
  have A2 : ∀ w', Mod (fun _ => False) w3 w' → w'.cell? ⟨g8, 2, none⟩ = some (.int .i64 0) := fun w' hm => hm.cell' (hca 2) id
  have A3 : ∀ w', Mod (fun _ => False) w3 w' → w'.cell? ⟨g8, 3, none⟩ = some (.slice none 0 0) := fun w' hm => hm.cell' (hca 3) id
  have B0 : ∀ w', Mod (fun _ => False) w3 w' → w'.cell? ⟨g11, 0, none⟩ = some (.int .i64 0) := fun w' hm => hm.cell' (hcb 0) id
  have B1 : ∀ w', Mod (fun _ => False) w3 w' → w'.cell? ⟨g11, 1, none⟩ = some (.int .i64 0) := fun w' hm => hm.cell' (hcb 1) id
  have B2 : ∀ w', Mod (fun _ => False) w3 w' → w'.cell? ⟨g11, 2, none⟩ = some (.int .i64 0) := fun w' hm => hm.cell' (hcb 2) id
  have B3 : ∀ w', Mod (fun _ => False) w3 w' → w'.cell? ⟨g11, 3, none⟩ = some (.slice none 0 0) := fun w' hm => hm.cell' (hcb 3) id
  have M23 := Lib.hid m23
  have OV3 := Lib.hid (OV1.out.mod m23 (fun _ _ => id))
  have B3H := Lib.hid b3
  have HG8 := Lib.hid hg8
  have HG11 := Lib.hid hg11
  clear hw3 k3 mb m2 b2 b3 hcb hca hg8 hg11 y2 K2 K1
  go_upto_region 3 with fail
  rw [← HW3.out, ← HG8.out, ← HG11.out]
  have mdr : Mod (fun _ => False) w3 w3.drew := Mod.drew _ _
  go_cut [51] (fun s51 wx => s51 = .bool false ∧ Mod (fun _ => False) w3 wx)
  case first =>
    refine wp_region_held_drew (S := fun w' => Mod (fun _ => False) w3 w') (by kernel_rfl) (mdr) (fun hHeld => ?_)
    refine wpAnyH_take (i := 0) (oi := ⟨some 35, .move (.tmp 9), 32, "law.go:61", #[], none⟩) (v := ?_) rfl (by kernel_rfl) (by kernel_rfl) (by kernel_rfl) (fun _ _ _ h => h) (Or.inl ⟨by rfl, ?_⟩) (by assumption) ?_
    rotate_left
    · (intro w hSw; (try dsimp only at hSw); go_simp; try with_reducible rfl)
    simp only [Act.put, List.setIfInBounds_toArray, List.set_cons_zero, List.set_cons_succ]
    refine wpAnyH_take (i := 1) (oi := ⟨some 36, .move (.tmp 12), 32, "law.go:61", #[], none⟩) (v := ?_) rfl (by kernel_rfl) (by kernel_rfl) (by kernel_rfl) (fun _ _ _ h => h) (Or.inl ⟨by rfl, ?_⟩) (by assumption) ?_
    rotate_left
    · (intro w hSw; (try dsimp only at hSw); go_simp; try with_reducible rfl)
    simp only [Act.put, List.setIfInBounds_toArray, List.set_cons_zero, List.set_cons_succ]
    refine wpAnyH_take (i := 2) (oi := ⟨some 37, .binOp .neq 32 (.tmp 35) (.tmp 36) 32, 4, "law.go:61", #[⟨0, .data⟩, ⟨1, .data⟩], none⟩) (v := ?_) rfl (by kernel_rfl) (by kernel_rfl) (by kernel_rfl) (fun _ _ _ h => h) (Or.inl ⟨by rfl, ?_⟩) (by assumption) ?_
    rotate_left
    · (intro w hSw; (try dsimp only at hSw); go_simp; try with_reducible rfl)
    simp only [Act.put, List.setIfInBounds_toArray, List.set_cons_zero, List.set_cons_succ]
    refine wpAnyH_take (i := 3) (oi := ⟨some 38, .move (.tmp 37), 4, "law.go:61", #[⟨2, .data⟩], none⟩) (v := ?_) rfl (by kernel_rfl) (by kernel_rfl) (by kernel_rfl) (fun _ _ _ h => h) (Or.inl ⟨by rfl, ?_⟩) (by assumption) ?_
    rotate_left
    · (intro w hSw; (try dsimp only at hSw); go_simp; try with_reducible rfl)
    simp only [Act.put, List.setIfInBounds_toArray, List.set_cons_zero, List.set_cons_succ]
    refine wpAnyH_take (i := 4) (oi := ⟨some 39, .move (.tmp 7), 93, "law.go:61", #[⟨3, .guard⟩], some (3, false)⟩) (v := ?_) rfl (by kernel_rfl) (by kernel_rfl) (by kernel_rfl) (fun _ _ _ h => h) (Or.inl ⟨by rfl, ?_⟩) (by assumption) ?_
    rotate_left
    · (intro w hSw; (try dsimp only at hSw); go_simp; try with_reducible rfl)
    simp only [Act.put, List.setIfInBounds_toArray, List.set_cons_zero, List.set_cons_succ]
    refine wpAnyH_take (i := 5) (oi := ⟨some 40, .binOp .eql 93 (.tmp 39) (.const (.pointer none)) 93, 4, "law.go:61", #[⟨4, .data⟩, ⟨3, .guard⟩], some (3, false)⟩) (v := ?_) rfl (by kernel_rfl) (by kernel_rfl) (by kernel_rfl) (fun _ _ _ h => h) (Or.inl ⟨by rfl, ?_⟩) (by assumption) ?_
    rotate_left
    · (intro w hSw; (try dsimp only at hSw); go_simp; try with_reducible rfl)
    simp only [Act.put, List.setIfInBounds_toArray, List.set_cons_zero, List.set_cons_succ]
    refine wpAnyH_take (i := 6) (oi := ⟨some 41, .move (.tmp 12), 32, "law.go:61", #[⟨3, .guard⟩], some (3, false)⟩) (v := ?_) rfl (by kernel_rfl) (by kernel_rfl) (by kernel_rfl) (fun _ _ _ h => h) (Or.inl ⟨by rfl, ?_⟩) (by assumption) ?_
    rotate_left
    · (intro w hSw; (try dsimp only at hSw); go_simp; try with_reducible rfl)
    simp only [Act.put, List.setIfInBounds_toArray, List.set_cons_zero, List.set_cons_succ]
    refine wpAnyH_take (i := 7) (oi := ⟨some 42, .binOp .neq 32 (.tmp 41) (.const (.int .i64 0)) 32, 4, "law.go:61", #[⟨6, .data⟩, ⟨3, .guard⟩], some (3, false)⟩) (v := ?_) rfl (by kernel_rfl) (by kernel_rfl) (by kernel_rfl) (fun _ _ _ h => h) (Or.inl ⟨by rfl, ?_⟩) (by assumption) ?_
    rotate_left
    · (intro w hSw; (try dsimp only at hSw); go_simp; try with_reducible rfl)
    simp only [Act.put, List.setIfInBounds_toArray, List.set_cons_zero, List.set_cons_succ]
    refine wpAnyH_take (i := 8) (oi := ⟨some 43, .binOp .neq 4 (.tmp 40) (.tmp 42) 4, 4, "law.go:61", #[⟨5, .data⟩, ⟨7, .data⟩, ⟨3, .guard⟩], some (3, false)⟩) (v := ?_) rfl (by kernel_rfl) (by kernel_rfl) (by kernel_rfl) (fun _ _ _ h => h) (Or.inl ⟨by rfl, ?_⟩) (by assumption) ?_
    rotate_left
    · (intro w hSw; (try dsimp only at hSw); go_simp; try with_reducible rfl)
    simp only [Act.put, List.setIfInBounds_toArray, List.set_cons_zero, List.set_cons_succ]
    refine wpAnyH_take (i := 9) (oi := ⟨some 44, .pick (.tmp 38) (.const (.bool true)) (.tmp 43), 4, "law.go:61", #[⟨3, .data⟩, ⟨8, .data⟩], none⟩) (v := ?_) rfl (by kernel_rfl) (by kernel_rfl) (by kernel_rfl) (fun _ _ _ h => h) (Or.inl ⟨by rfl, ?_⟩) (by assumption) ?_
    rotate_left
    · (intro w hSw; (try dsimp only at hSw); go_simp; try with_reducible rfl)
    simp only [Act.put, List.setIfInBounds_toArray, List.set_cons_zero, List.set_cons_succ]
    refine wpAnyH_take (i := 10) (oi := ⟨some 45, .move (.tmp 44), 4, "law.go:61", #[⟨9, .data⟩, ⟨3, .chain⟩], none⟩) (v := ?_) rfl (by kernel_rfl) (by kernel_rfl) (by kernel_rfl) (fun _ _ _ h => h) (Or.inl ⟨by rfl, ?_⟩) (by assumption) ?_
    rotate_left
    · (intro w hSw; (try dsimp only at hSw); go_simp; try with_reducible rfl)
    simp only [Act.put, List.setIfInBounds_toArray, List.set_cons_zero, List.set_cons_succ]
    refine wpAnyH_take (i := 11) (oi := ⟨some 46, .load 95 (.tmp 8), 95, "law.go:61", #[⟨10, .guard⟩], some (10, false)⟩) (v := ?_) rfl (by kernel_rfl) (by kernel_rfl) (by kernel_rfl) (fun _ _ _ h => h) (Or.inl ⟨by rfl, ?_⟩) (by assumption) ?_
    rotate_left
    · (intro w hSw; (try dsimp only at hSw); go_simp; try with_reducible rfl)
    simp only [Act.put, List.setIfInBounds_toArray, List.set_cons_zero, List.set_cons_succ]
    refine wpAnyH_take (i := 13) (oi := ⟨some 48, .load 108 (.tmp 11), 108, "law.go:61", #[⟨10, .guard⟩], some (10, false)⟩) (v := ?_) rfl (by kernel_rfl) (by kernel_rfl) (by kernel_rfl) (fun _ _ _ h => h) (Or.inl ⟨by rfl, ?_⟩) (by assumption) ?_
    rotate_left
    · (intro w hSw; (try dsimp only at hSw); go_simp; try with_reducible rfl)
    simp only [Act.put, List.setIfInBounds_toArray, List.set_cons_zero, List.set_cons_succ]
    refine wpAnyH_ready (rs := [12]) (by kernel_rfl) (by simp) ?_
    refine AllReadyH.cons (o := ⟨some 47, .call { callee := .value (.func 74), args := #[.tmp 46], argTypes := #[95] }, 108, "law.go:61", #[⟨11, .data⟩, ⟨10, .chain⟩, ⟨10, .guard⟩], some (10, false)⟩) rfl (fun K hK => ?_) AllReadyH.nil
    go_simp
    refine (KAs.out none 0 0 _).mono ?_
    rintro e wa ⟨rfl, ma0⟩
    have ma := mdr.trans' ma0
    try simp only []
    refine hK.out _ _ (ma) (fun _ => ?_)
    clear hK K
    try simp only [Act.put, List.setIfInBounds_toArray, List.set_cons_zero, List.set_cons_succ]
    refine wpAnyH_ready (rs := [14]) (by kernel_rfl) (by simp) ?_
    refine AllReadyH.cons (o := ⟨some 49, .call { callee := .value (.func 73), args := #[.tmp 47, .tmp 48], argTypes := #[108, 108] }, 4, "law.go:61", #[⟨12, .data⟩, ⟨13, .data⟩, ⟨12, .chain⟩, ⟨10, .guard⟩], some (10, false)⟩) rfl (fun K hK => ?_) AllReadyH.nil
    go_simp
    refine (KS.out none 0 none 0 _ (((OwnB.bytes OV3.out).2).mod ma (fun _ _ _ => id)) (B3H.out.mod ma (fun _ _ _ => id))).mono ?_
    rintro e wb ⟨rfl, mb0⟩
    have mb := ma.trans' mb0
    try simp only []
    refine hK.out _ _ (mb) (fun _ => ?_)
    clear hK K
    try simp only [Act.put, List.setIfInBounds_toArray, List.set_cons_zero, List.set_cons_succ]
    refine wpAnyH_take (i := 15) (oi := ⟨some 50, .unOp .not 4 (.tmp 49), 4, "law.go:61", #[⟨14, .data⟩, ⟨10, .guard⟩], some (10, false)⟩) (v := ?_) rfl (by kernel_rfl) (by kernel_rfl) (by kernel_rfl) (fun _ _ _ h => h) (Or.inl ⟨by rfl, ?_⟩) (by assumption) ?_
    rotate_left
    · (intro w hSw; (try dsimp only at hSw); go_simp; try with_reducible rfl)
    simp only [Act.put, List.setIfInBounds_toArray, List.set_cons_zero, List.set_cons_succ]
    refine wpAnyH_take (i := 16) (oi := ⟨some 51, .pick (.tmp 45) (.const (.bool true)) (.tmp 50), 4, "law.go:61", #[⟨10, .data⟩, ⟨15, .data⟩], none⟩) (v := ?_) rfl (by kernel_rfl) (by kernel_rfl) (by kernel_rfl) (fun _ _ _ h => h) (Or.inl ⟨by rfl, ?_⟩) (by assumption) ?_
    rotate_left
    · (intro w hSw; (try dsimp only at hSw); go_simp; try with_reducible rfl)
    simp only [Act.put, List.setIfInBounds_toArray, List.set_cons_zero, List.set_cons_succ]
    refine wpAnyH_done (by kernel_rfl) ?_ _
    go_wp2_with fail
    go_meet
    exact ⟨rfl, mb⟩
  case rest =>
    obtain ⟨rfl, m4⟩ := hcut
    have l3 := A3 _ m4
    have m14 := M23.out.trans' m4
    have m04 := MW1.out.trans' m14
    have ho4 := OV3.out.mod m4 (fun _ _ => id)
    have HSP := Lib.hid (spoil_any ho4 m04.size (by decide))
    have HM04 := Lib.hid m04
    have HM14 := Lib.hid (HMA.out.trans' m14)
    have HLT := Lib.hid (fun k (hk : (Value.slice none 0 0).ownBlock = some k) => World.ownsRow.lt OV1.out k hk)
    clear l3 m14 m04 ho4
    have l3 := A3 _ m4
    clear A0 A1 A2 A3 B0 B1 B2 B3 m4 mdr m23
    go_wp2_with fail
    refine HSP.out.mono ?_
    rintro e w4 ⟨rfl, m5⟩
    have hx4 := m5.obj (HM04.out.obj HX.out id) (fun e => by have := (HLT.out x e.symm).1; omega)
    have hmx : Mod (fun k => k = x) w w4 := (HM04.out.mono (fun _ _ e => e.elim)).trans m5 (fun k hk e => by have := (HLT.out k e.symm).1; omega)
    have hc := fun j => cell_of_row w4 x j _ 118 (0, 0) hx4
    have c1 : w4.cell? ⟨x, 1, none⟩ = some (.pointer po) := hc 1
    have c3 : w4.cell? ⟨x, 3, none⟩ = some (.pointer qo) := hc 3
    have c4 : w4.cell? ⟨x, 4, none⟩ = some (.int .i64 z) := hc 4
    have t1 := thaw_of (i := 1) hx4
    have t3 := thaw_of (i := 3) hx4
    have t4 := thaw_of (i := 4) hx4
    have HXR := Lib.hid hx4
    have HMX := Lib.hid hmx
    have HM4 := Lib.hid (m5.mono (F := fun k => some k = (Value.slice none 0 0).ownBlock) (G := fun k => some k = (Value.slice none 0 0).ownBlock ∨ k = x) (fun _ _ e => .inl e))
    clear hx4 hmx hc m5 HSP l3
    go_wp2
    go_ret
    have mx := ((Mod.setCell (F := fun k => k = x) w4 ⟨x, 1, none⟩ (.pointer none) rfl).trans' (Mod.setCell _ ⟨x, 3, none⟩ (.pointer none) rfl)).trans' (Mod.setCell _ ⟨x, 4, none⟩ (.int .i64 (b)) rfl)
    have hz1 := Z1.out
    have hz2 := MW1.out.size
    exact ⟨rfl, xObj_set HXR.out _ _ _, HMX.out.trans' mx⟩
end Go.Proofs.Ytdinnkacilgmmaa
