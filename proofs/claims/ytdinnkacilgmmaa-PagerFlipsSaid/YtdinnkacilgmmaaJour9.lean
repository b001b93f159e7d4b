/- The journal: Append. -/
import Derived.Test.YtdinnkacilgmmaaJour8
import Derived.Test.YtdinnkacilgmmaaJPlZ
import Derived.Test.YtdinnkacilgmmaaRound
import Derived.Test.YtdinnkacilgmmaaSepZ
import Derived.Sort.CutIn
namespace Go.Proofs.Ytdinnkacilgmmaa
open Go.RowKit

attribute [local go_sem] Oper.semAt_some

theorem run_make_bytes2 (w : World) (n c : Nat) (hn : n ≤ c) (hc : c ≤ 281474976710656) :
    (Instr.makeSlice 22 (.int .i64 (n : Int)) (.int .i64 (c : Int))).run Try.prog w = .ok (.slice (some ⟨w.heap.size, 0, none⟩) n c) (w.alloc (.cells (zerosV c) 5)) := by
  obtain ⟨i, hi, hz, hs, hb⟩ := info_parts info5
  have h := run_make (P := Try.prog) w 22 5 i _ Try.underlying22 hi hz .i64 .i64 (n : Int) (c : Int) (by omega) (by omega) (by rw [hb]; omega) (by omega)
  rw [h, hs, Int.toNat_natCast, Int.toNat_natCast, madeCells_bytes]
theorem OwnB.made2 (w : World) (B n c : Nat) (hB : B ≤ w.heap.size) (hn : n ≤ c) (hc : c ≤ maxLen) :
    OwnB (w.alloc (.cells (zerosV c) 5)) B (.slice (some ⟨w.heap.size, 0, none⟩) n c) (List.replicate n 0) := by
  refine ⟨by simp, .inr ⟨w.heap.size, c, zerosV c, by rw [List.length_replicate], hB, heap_alloc_new w _, by rw [List.length_replicate]; exact hn, hc, by simp [zerosV], ?_⟩⟩
  simp [zerosV, List.take_replicate, hn]

theorem OwnB.row_lt {w : World} {B g n cap : Nat} {l : List UInt8} (h : OwnB w B (.slice (some ⟨g, 0, none⟩) n cap) l) : g < w.heap.size := (World.ownsRow.lt h g rfl).2
theorem DiskAt.cells {w : World} {B p : Nat} {D : Dsk} {F : Nat → Prop} (h : DiskAt w B p D F) : ∀ k, F k → ∃ C t fz, w.heap[k]? = some (.cells C t fz) := by
  obtain ⟨vs, vn, vl, h, rfl⟩ := h
  rintro k (rfl | hk | hk | hk)
  · exact ⟨_, _, _, h.at_⟩
  · obtain ⟨c, hc⟩ := own_type h.safe hk.symm; exact ⟨_, _, _, hc⟩
  · obtain ⟨c, hc⟩ := own_type h.now hk.symm; exact ⟨_, _, _, hc⟩
  · obtain ⟨c, hc⟩ := own_type h.l hk.symm; exact ⟨_, _, _, hc⟩
theorem keeps_of_mod {F : Nat → Prop} {W W' : World} (hm : Mod F W W') (hF : ∀ k, F k → ∃ C t fz, W.heap[k]? = some (.cells C t fz)) : KeepsOthers W W' :=
  ⟨hm.size, fun k o hk ho => hm.obj hk (fun hf => by obtain ⟨C, t, fz, e⟩ := hF k hf; rw [e] at hk; cases hk; cases ho)⟩
theorem push_write {D : Dsk} (hfu : D.full = false) (hgo : D.gone = false) (l : List (Nat × List UInt8)) (n : Nat) (c : List UInt8) (hn : n < D.N) (hc : c.length = 256) :
    (D.push l).why (n : Int) c = 0 ∧ (D.push l).write (n : Int) c = D.push (l ++ [(n, c)]) := by
  have h : (D.push l).why (n : Int) c = 0 := by
    unfold Dsk.why
    have e1 : (D.push l).gone = false := hgo
    have e2 : (D.push l).full = false := hfu
    have e3 : (D.push l).N = D.N := rfl
    rw [e1, e2, e3, if_neg (by decide), if_neg (by omega), if_neg (by omega), if_neg (by decide)]
  refine ⟨h, ?_⟩
  unfold Dsk.write
  rw [if_pos h]
  have : sect c = c := by unfold sect; rw [hc]; simp
  unfold Dsk.push
  simp [this]

theorem results_cell1 {fn : Func} {p : Tmp} {b : Nat} {k : IntKind} {x : Int} (h : fn.results = #[.cell p 32]) (tmps : Array Value) (w : World) (hp : tmps.getD p undef = .pointer (some ⟨b, 0, none⟩)) (hc : w.cell? ⟨b, 0, none⟩ = some (.int k x)) :
    (results fn tmps).run Try.prog w = .ok (.int k x) w := by
  simp only [results, h]
  have hp' : tmps[p]?.getD undef = .pointer (some ⟨b, 0, none⟩) := by simpa using hp
  simp [hp', asAddr, go_sem, hc]
theorem chunk_seq (B1 B2 g L cap : Nat) (hL : L ≤ 1048576) (hcap : L ≤ cap) (w : World) (hB1 : Boxed w B1 22 (.slice (some ⟨g, 0, none⟩) L cap)) (hB2 : Boxed w B2 3 (.int .i64 242)) :
    SeqStopsK Fence.wide 4 Try.prog 124 #[.pointer (some ⟨B1, 0, none⟩), .pointer (some ⟨B2, 0, none⟩)] (fun x : Nat => #[pieceV g L x]) (Keeps2 B1 B2) (fun ys => ys = List.range ((L + 241) / 242)) (fun pre => ∃ k, k ≤ (L + 241) / 242 ∧ pre = List.range k) ((L + 241) / 242) w :=
  fun l J Jx W hW hJ _ hY h0 => chunk1_in Fence.wide 4 trivial rfl (by decide) l B1 B2 g L cap hL hcap J Jx hY W
    ((hW.cell (p := ⟨B1, 0, none⟩) (lt_of_block hB1)).trans hB1.cell) ((hW.cell (p := ⟨B2, 0, none⟩) (lt_of_block hB2)).trans hB2.cell) h0
    (fun s W hs => hJ s W W.drew none hs ⟨rfl, rfl, rfl, Nat.le_refl _, fun _ _ _ => rfl⟩ (fun r e => by cases e))

/-- behind some pieces -/
structure AI (w : World) (q p B : Nat) (J : Jr) (D : Dsk) (F : Nat → Prop) (b : List UInt8) (n T g6 cap6 : Nat) (pre : List Nat) (W : World) : Prop where
  c0 : Boxed W w.heap.size 76 (.pointer (some ⟨q, 0, none⟩))
  c1 : Boxed W (w.heap.size + 1) 32 (.int .i64 0)
  c2 : Boxed W (w.heap.size + 1 + 1) 2 (.int .i64 (n : Int))
  k0 : Boxed W T 2 (.int .i64 (pre.length : Int))
  k1 : Boxed W (T + 1) 22 (.slice (some ⟨g6, 0, none⟩) (b.length + 4) cap6)
  k2 : Boxed W (T + 1 + 1) 3 (.int .i64 242)
  j : JAt W q p J
  d : ∃ F', DiskAt W B p (D.push (apWrites J b pre)) F' ∧ ∀ k, F' k → F k ∨ T + 3 ≤ k
  o : BytesAt W (some ⟨g6, 0, none⟩) (apAll b)
  m : Mod F w W

theorem AI.own {w : World} {q p B : Nat} {J : Jr} {D : Dsk} {F : Nat → Prop} {b : List UInt8} {n T g6 cap6 : Nat} (hT : w.heap.size + 3 ≤ T) (hg : g6 < T) (hq : q < w.heap.size) : OwnFrom (T + 3) (AI w q p B J D F b n T g6 cap6) := fun s W W' row h hgr hr => by
  have hm : Mod (fun k => some k = row) W W' := Mod.grown hgr
  have key : ∀ {k : Nat} {o : Obj}, k < T + 3 → W.heap[k]? = some o → W'.heap[k]? = some o := fun {k o} hk ho => hm.obj ho (fun e => by have := (hr k e.symm).1; omega)
  obtain ⟨F', h1, h2⟩ := h.d
  refine ⟨key (by omega) h.c0, key (by omega) h.c1, key (by omega) h.c2, key (by omega) h.k0, key (by omega) h.k1, key (by omega) h.k2, key (by omega) h.j, ⟨F', h1.mod hm (fun k hk e => ?_), h2⟩, h.o.mod hm (fun x hx _ e => ?_), h.m.trans hm (fun k hk e => ?_)⟩
  · obtain ⟨-, o, ho, hno⟩ := hr k e.symm
    obtain ⟨C, t, fz, hc⟩ := h1.cells k hk
    rw [hc] at ho; cases ho; cases hno
  · cases hx
    have := (hr _ e.symm).1
    dsimp only at this
    omega
  · have := (hr k e.symm).1
    omega

theorem AI.push {w : World} {q p B : Nat} {J : Jr} {D : Dsk} {F : Nat → Prop} {b : List UInt8} {n T g6 cap6 : Nat} {pre : List Nat} {x : Nat} {W W' : World} {F' : Nat → Prop} (h : AI w q p B J D F b n T g6 cap6 pre W) (hT : w.heap.size + 3 ≤ T) (hg1 : w.heap.size ≤ g6) (hg : g6 < T) (hqF : ¬ F q) (hq : q < w.heap.size) (hF : ∀ k, F k → k < w.heap.size)
    (hsz : T + 3 ≤ W.heap.size) (hd : ∀ k, F' k → F k ∨ T + 3 ≤ k) (hcell : ∀ k, F' k → ∃ C t fz, W.heap[k]? = some (.cells C t fz)) (hm : Mod F' W W') (hd' : ∃ F'', DiskAt W' B p (D.push (apWrites J b pre ++ [(J.place (J.next + pre.length), secB (J.next + pre.length) (apFlag b pre.length) (apPiece b x))])) F'' ∧ ∀ k, F'' k → F' k ∨ W.heap.size ≤ k) :
    AI w q p B J D F b n T g6 cap6 (pre ++ [x]) (W'.setCell ⟨T, 0, none⟩ (.int .i64 ((pre.length + 1 : Nat) : Int))) ∧ KeepsOthers W (W'.setCell ⟨T, 0, none⟩ (.int .i64 ((pre.length + 1 : Nat) : Int))) ∧ Keeps2 (T + 1) (T + 1 + 1) W (W'.setCell ⟨T, 0, none⟩ (.int .i64 ((pre.length + 1 : Nat) : Int))) := by
  have hno : ∀ k, k < T + 3 → (k = q ∨ w.heap.size ≤ k) → ¬ F' k := fun k hk h1 h2 => by
    rcases hd k h2 with e | e
    · rcases h1 with rfl | h1
      · exact hqF e
      · have := hF k e; omega
    · omega
  have hs : Mod (fun k => k = T) W' (W'.setCell ⟨T, 0, none⟩ (.int .i64 ((pre.length + 1 : Nat) : Int))) := Mod.setCell _ _ _ rfl
  have key : ∀ {k : Nat} {o : Obj}, k < T + 3 → (k = q ∨ w.heap.size ≤ k) → k ≠ T → W.heap[k]? = some o → (W'.setCell ⟨T, 0, none⟩ (.int .i64 ((pre.length + 1 : Nat) : Int))).heap[k]? = some o := fun {k o} hk h1 h2 ho =>
    hs.obj (hm.obj ho (hno k hk h1)) h2
  have k1 := key (by omega) (.inr (by omega)) (by omega) h.k1
  have k2 := key (by omega) (.inr (by omega)) (by omega) h.k2
  obtain ⟨F'', e1, e2⟩ := hd'
  have hTW : Boxed W' T 2 (.int .i64 (pre.length : Int)) := hm.obj h.k0 (hno T (by omega) (.inr (by omega)))
  refine ⟨⟨key (by omega) (.inr (by omega)) (by omega) h.c0, key (by omega) (.inr (by omega)) (by omega) h.c1, key (by omega) (.inr (by omega)) (by omega) h.c2, ?_, k1, k2, key (by omega) (.inl rfl) (by omega) h.j, ⟨F'', ?_, fun k hk => ?_⟩, ?_, ?_⟩, ?_, ?_, ?_⟩
  · rw [List.length_append]; exact Boxed.set _ hTW
  · rw [apWrites_snoc]
    refine e1.mod hs (fun k hk e => ?_)
    subst e
    rcases e2 _ hk with e | e
    · exact hno _ (by omega) (.inr (by omega)) e
    · omega
  · rcases e2 k hk with e | e
    · exact hd k e
    · exact .inr (by omega)
  · refine (h.o.mod hm (fun y hy _ => ?_)).mod hs (fun y hy _ e => ?_)
    · cases hy; exact hno _ (by dsimp only; omega) (.inr (by dsimp only; omega))
    · cases hy; dsimp only at e; omega
  · refine (h.m.trans hm (fun k hk e => ?_)).trans hs (fun k hk e => by omega)
    rcases hd k e with e | e
    · exact e
    · omega
  · exact (keeps_of_mod hm hcell).trans (KeepsOthers.setCell _ _ _)
  · exact (Boxed.cell k1).trans (Boxed.cell h.k1).symm
  · exact (Boxed.cell k2).trans (Boxed.cell h.k2).symm

set_option maxHeartbeats 4000000 in
set_option maxRecDepth 100000 in
theorem append_ok {w : World} {B q p : Nat} {J : Jr} {D : Dsk} {F : Nat → Prop} (hj : JAt w q p J) (hd : DiskAt w B p D F) (hq : ¬ F q) (hfu : D.full = false) (hgo : D.gone = false) (hlim : D.l.length ≤ 1000000)
    (hz1 : 1 ≤ J.size) (hfit : J.frm + J.size ≤ D.N) (hs1 : 1 ≤ J.start) (hsn : J.start ≤ J.next) (htop : J.start + J.size ≤ 2305843009213693952) (a : Option Addr) (b : List UInt8) (cap : Nat) (hb : BytesAt w a b) (ha : a = none → cap = 0) (hok : J.whyApp b = 0) :
    Calls Try.prog 54 #[.pointer (some ⟨q, 0, none⟩), .slice a b.length cap] w fun e w' => e = .returned (.int .i64 0) ∧ JAt w' q p (J.app b) ∧ Mod (fun k => F k ∨ k = q) w w' ∧ ∃ F', DiskAt w' B p (J.appD D b) F' ∧ (∀ k, F' k → F k ∨ w.heap.size ≤ k) := by
  have htopN := hd.wf.top
  have hc : J.dead = false ∧ b.length ≤ 8192 ∧ J.next + apN b ≤ J.start + J.size := by
    unfold Jr.whyApp at hok
    split at hok
    · cases hok
    split at hok
    · cases hok
    split at hok
    · cases hok
    exact ⟨by rename_i h _ _; simpa using h, by omega, by omega⟩
  obtain ⟨hdd, hbl, hroom⟩ := hc
  obtain ⟨c0, c1, c2, c3, c4, c5⟩ := hj.cell
  rw [hdd] at c5
  have hbl' : (b.length : Int) ≤ 8192 := by omega
  have hqs : q < w.heap.size := lt_of_block hj
  obtain ⟨n, hn⟩ : ∃ n, n = apN b := ⟨_, rfl⟩
  have hN := Lib.hid hn
  rw [← hn] at hroom
  refine callsIn_wide.1 (callsIn_of_wp_marks (F := Fence.wide) (n := 5) Try.func54 rfl trivial (wpIn_wide.2 ?_) rfl)
  simp only [Try.ntmps54, List.size_toArray, List.length_cons, List.length_nil, Nat.reduceAdd, Nat.reduceSub, Array.replicate_succ, Array.replicate_zero, List.push_toArray, List.append_toArray, List.nil_append, List.cons_append]
  go_wp2_with fail
  clear hn
  have K97 := fun w' => sectors_any (w := w') b.length (by omega)
  rw [show (b.length + 245) / 242 = n from hN.out.symm] at K97
  refine (K97 _).mono ?_
  rintro e w' ⟨rfl, rfl⟩
  clear K97
  go_wp2_with fail
  obtain ⟨W3, hW3⟩ : ∃ W3, W3 = ((w.alloc (Obj.cells #[Value.pointer (some ⟨q, 0, none⟩)] 76)).alloc (Obj.cells #[Value.int IntKind.i64 0] 32)).alloc (Obj.cells #[Value.int IntKind.i64 (n : Int)] 2) := ⟨_, rfl⟩
  rw [← hW3]
  have m3 : Mod (fun _ => False) w W3 := by rw [hW3]; exact ((Mod.alloc _ _ _).trans' (Mod.alloc _ _ _)).trans' (Mod.alloc _ _ _)
  have z3 : W3.heap.size = w.heap.size + 3 := by rw [hW3]; simp
  have b0 : Boxed W3 w.heap.size 76 (.pointer (some ⟨q, 0, none⟩)) := by
    unfold Boxed; rw [hW3, Below.heap_alloc _ _ _ (by simp; omega), Below.heap_alloc _ _ _ (by simp), heap_alloc_new]
  have b1 : Boxed W3 (w.heap.size + 1) 32 (.int .i64 0) := by
    unfold Boxed; rw [hW3, Below.heap_alloc _ _ _ (by simp)]
    have := heap_alloc_new (w.alloc (Obj.cells #[Value.pointer (some ⟨q, 0, none⟩)] 76)) (Obj.cells #[Value.int IntKind.i64 0] 32)
    simpa using this
  have b2 : Boxed W3 (w.heap.size + 1 + 1) 2 (.int .i64 (n : Int)) := by
    unfold Boxed; rw [hW3]
    have := heap_alloc_new ((w.alloc (Obj.cells #[Value.pointer (some ⟨q, 0, none⟩)] 76)).alloc (Obj.cells #[Value.int IntKind.i64 0] 32)) (Obj.cells #[Value.int IntKind.i64 (n : Int)] 2)
    simpa using this
  clear hW3
  have x0 := b0.cell
  have x1 := b1.cell
  have x2 := b2.cell
  have d2 := m3.cell' c2 id
  have d3 := m3.cell' c3 id
  have d4 := m3.cell' c4 id
  have w1 : IntKind.i64.wrap ((J.next : Int) + (n : Int)) = (J.next : Int) + (n : Int) := IntWalk.i64_in _ (by omega)
  have w2 : IntKind.i64.wrap ((J.next : Int) + (n : Int) - (J.start : Int)) = (J.next : Int) + (n : Int) - (J.start : Int) := IntWalk.i64_in _ (by omega)
  have hle : (J.next : Int) + (n : Int) - (J.start : Int) ≤ (J.size : Int) := by omega
  go_region_held3 (fun w' => w'.cell? ⟨q, 2, none⟩ = some (.int .i64 (J.size : Int)) ∧ w'.cell? ⟨q, 3, none⟩ = some (.int .i64 (J.start : Int)) ∧ w'.cell? ⟨q, 4, none⟩ = some (.int .i64 (J.next : Int)) ∧ w'.cell? ⟨w.heap.size, 0, none⟩ = some (.pointer (some ⟨q, 0, none⟩)) ∧ w'.cell? ⟨w.heap.size + 1 + 1, 0, none⟩ = some (.int .i64 (n : Int))) (refine ⟨?_, ?_, ?_, ?_, ?_⟩ <;> simpa using (by assumption)) (fail)
  obtain ⟨W4, hW4⟩ : ∃ W4, W4 = W3.drew.alloc (.cells (zerosV (4 + b.length)) 5) := ⟨_, rfl⟩
  obtain ⟨g, hg⟩ : ∃ g, g = w.heap.size + 3 := ⟨_, rfl⟩
  have hgW : W3.drew.heap.size = g := by rw [hg]; exact z3
  have km : (Instr.makeSlice 22 (.int .i64 4) (.int .i64 (4 + (b.length : Int)))).run Try.prog W3.drew = .ok (.slice (some ⟨g, 0, none⟩) 4 (4 + b.length)) W4 := by
    have := run_make_bytes2 W3.drew 4 (4 + b.length) (by omega) (by omega)
    rw [hW4, ← hgW]; push_cast at this; exact this
  have o4 : OwnB W4 g (.slice (some ⟨g, 0, none⟩) 4 (4 + b.length)) (List.replicate 4 0) := by
    have := OwnB.made2 W3.drew g 4 (4 + b.length) (by omega) (by omega) (by unfold maxLen; omega)
    rw [hgW] at this; rw [hW4]; exact this
  have m4 : Mod (fun _ => False) W3 W4 := by rw [hW4]; exact (Mod.drew _ _).trans' (Mod.alloc _ _ _)
  have z4 : W4.heap.size = g + 1 := by rw [hW4]; simp [hgW]
  have hb4 := hb.mod (m3.trans' m4) (fun _ _ _ => id)
  have HG := Lib.hid hg
  clear hW4 x0 x1 x2 d2 d3 d4 w1 w2 hg
  have K27 : ∀ w', Mod (fun _ => False) W4 w' → Calls Try.prog 27 #[.slice a b.length cap] w' fun e w'' => e = .returned (.int .u32 ((crc b).toNat : Int)) ∧ w' = w'' := fun w' hm' =>
    sum_n _ b b.length _ w' rfl (by omega) (hb4.mod hm' (fun _ _ _ => id))
  have hS := (crc b).isLt
  have wS : IntKind.u64.wrap ((crc b).toNat : Int) = ((crc b).toNat : Int) := IntWalk.u64_in _ (by omega)
  replace K27 := Lib.hid K27
  go_upto_region 11 with fail
  go_wp2_with (go_at_call 27; refine (K27.out _ (Mod.refl _ _)).mono ?_; rintro e w' ⟨rfl, rfl⟩)
  refine (little_any o4 0 4 _ (by decide) (by rw [List.length_replicate]; decide) (crc b).toNat).mono ?_
  rintro e w5 ⟨rfl, o5, m5⟩
  have e5 : splice (List.replicate 4 (0 : UInt8)) 0 (le 4 (crc b).toNat) = le 4 (crc b).toNat := splice_all _ _ (by rw [le_length, List.length_replicate])
  rw [e5] at o5
  have m5' : Mod (fun _ => False) W3 w5 := m4.trans m5 (fun k hk e => by have := HG.out; omega)
  have hb5 := hb.mod (m3.trans' m5') (fun _ _ _ => id)
  have z5 := m5.size
  clear K27 o4 m4 hb4 e5 m5 hS wS
  have O5 := Lib.hid o5
  have HB5 := Lib.hid hb5
  clear o5 hb5
  go_upto_region 13 with (at_builtin; refine appB_at rfl _ _ rfl g (.slice (some ⟨g, 0, none⟩) 4 (4 + b.length)) _ rfl O5.out a _ cap b rfl rfl ha HB5.out (by rw [le_length]; omega) (by omega) ?_; intro v6 w6 o6 m6 p6)
  have o6' : OwnB w6 g v6 (apAll b) := o6
  have hl6 := apAll_length b
  have m6' : Mod (fun _ => False) W3 w6 := by
    refine m5'.trans m6 (fun k hk e => ?_)
    have h1 := HG.out
    have h2 : k = g := Option.some.inj e
    omega
  have x0 := (m6'.obj b0 id)
  have x1 := (m6'.obj b1 id)
  have x2 := (m6'.obj b2 id)
  have hm6 := (m3.trans' m6')
  obtain ⟨g6, cap6, cur6, rfl, hg6, hob6, hle6, hcap6, hsz6, hrow6⟩ := o6'.row (by intro e; have := apAll_length b; rw [e] at this; simp at this)
  rw [hl6]
  rw [hl6] at hle6
  have hB6 := (OwnB.bytes o6').2
  have z6 := m6'.size
  clear o6 m6 p6 m5' z5 O5 HB5 hrow6 hsz6 hob6 hcap6 b0 b1 b2 hb
  go_wp2_with (go_at_call 99; refine (chunk_any _ _ _ _).mono ?_; rintro e w' ⟨rfl, rfl⟩)
  have hw6 : ∀ k : Nat, k < w.heap.size → ¬ F k → True := fun _ _ _ => trivial
  clear hw6
  obtain ⟨T, hT⟩ : ∃ T, T = w6.heap.size := ⟨_, rfl⟩
  obtain ⟨W7, hW7⟩ : ∃ W7, W7 = ((w6.alloc (Obj.cells #[Value.int IntKind.i64 0] 2)).alloc (Obj.cells #[Value.slice (some ⟨g6, 0, none⟩) (b.length + 4) cap6] 22)).alloc (Obj.cells #[Value.int IntKind.i64 242] 3) := ⟨_, rfl⟩
  rw [← hW7]
  have z7 : W7.heap.size = T + 3 := by rw [hW7, hT]; simp
  have m7 : Mod (fun _ => False) w6 W7 := by rw [hW7]; exact ((Mod.alloc _ _ _).trans' (Mod.alloc _ _ _)).trans' (Mod.alloc _ _ _)
  have y0 : Boxed W7 T 2 (.int .i64 0) := by
    unfold Boxed; rw [hW7, hT, Below.heap_alloc _ _ _ (by simp; omega), Below.heap_alloc _ _ _ (by simp), heap_alloc_new]
  have y1 : Boxed W7 (T + 1) 22 (.slice (some ⟨g6, 0, none⟩) (b.length + 4) cap6) := by
    unfold Boxed; rw [hW7, hT, Below.heap_alloc _ _ _ (by simp)]
    have := heap_alloc_new (w6.alloc (Obj.cells #[Value.int IntKind.i64 0] 2)) (Obj.cells #[Value.slice (some ⟨g6, 0, none⟩) (b.length + 4) cap6] 22)
    simpa using this
  have y2 : Boxed W7 (T + 1 + 1) 3 (.int .i64 242) := by
    unfold Boxed; rw [hW7, hT]
    have := heap_alloc_new ((w6.alloc (Obj.cells #[Value.int IntKind.i64 0] 2)).alloc (Obj.cells #[Value.slice (some ⟨g6, 0, none⟩) (b.length + 4) cap6] 22)) (Obj.cells #[Value.int IntKind.i64 242] 3)
    simpa using this
  have hT3 : w.heap.size + 3 ≤ T := by omega
  have hg6T : g6 < T := by rw [hT]; exact (OwnB.row_lt o6')
  have hg6w : w.heap.size ≤ g6 := by have := HG.out; omega
  have hF0 : ∀ k, F k → k < w.heap.size := fun k hk => (hd.lt k hk).2
  have hI0 : AI w q p B J D F b n T g6 cap6 [] W7 := by
    have mw : Mod (fun _ => False) w W7 := hm6.trans' m7
    refine ⟨m7.obj x0 id, m7.obj x1 id, m7.obj x2 id, y0, y1, y2, mw.obj hj id, ⟨F, ?_, fun k hk => .inl hk⟩, hB6.mod m7 (fun _ _ _ => id), mw.mono (fun _ _ e => e.elim)⟩
    have e : D.push (apWrites J b []) = D := by unfold Dsk.push apWrites; simp
    rw [e]
    exact hd.mod mw (fun _ _ => id)
  have hn2 : (b.length + 4 + 241) / 242 = n := by rw [hN.out]; rfl
  have HI0 := Lib.hid hI0
  have HT := Lib.hid hT
  clear hI0 hT hW7 m7 x0 x1 x2 hm6 m6' z6 m3 z3 km hgW z4 hB6 o6' hle y0
  rw [← HT.out]
  have hsq := chunk_seq (T + 1) (T + 1 + 1) g6 (b.length + 4) cap6 (by omega) hle6 W7 y1 y2
  rw [hn2] at hsq
  refine (wpIn_wide (n := 5)).1 ?_
  refine wpIn_rangeFunc_ownF (F := Fence.wide) (n := 5) rfl (by decide) rfl trivial (fun _ _ => rfl) hsq (fun h k => ⟨k.1.trans h.1, k.2.trans h.2⟩) ?hKb (Below.refl _ _) (fun _ => rfl)
    (AI w q p B J D F b n T g6 cap6) (fun _ _ _ => False) (by rw [z7]; exact AI.own hT3 hg6T hqs) (fun _ _ _ _ _ h => h.elim) HI0.out ?a1 ?hassign ?hbody ?hdone ?hstop
  case hassign =>
    intro l x W K hK
    gi_wp2
    exact hK
  case hKb =>
    intro W l o o' hl _ _ _
    exact ⟨World.cell?_of_block (a := ⟨T + 1, 0, none⟩) (World.putObj_heap_other (by show T + 1 ≠ l; omega)), World.cell?_of_block (a := ⟨T + 1 + 1, 0, none⟩) (World.putObj_heap_other (by show T + 1 + 1 ≠ l; omega))⟩
  case hstop => exact fun _ _ _ _ _ _ h => h.elim
  case hbody =>
    intro l pre x W hI hlen
    have e0 := hI.c0.cell
    have e2 := hI.c2.cell
    have e7 := hI.k0.cell
    obtain ⟨F', hd', hF'⟩ := hI.d
    have hWs : T + 3 ≤ W.heap.size := by have := lt_of_block hI.k2; omega
    have hn1 : n ≤ 4096 := by have := htopN; omega
    have hbp := hI.o.sub (242 * x) 242
    rw [Nat.zero_add] at hbp
    have hpl : (apPiece b x).length = min 242 (b.length + 4 - 242 * x) := apPiece_length b x
    have hP : J.place (J.next + pre.length) < D.N := place_lt J hz1 hfit _
    have KP : ∀ w', Mod (fun _ => False) W w' → Calls Try.prog 100 #[.pointer (some ⟨q, 0, none⟩), .int .i64 ((J.next : Int) + (pre.length : Int))] w' fun e w'' => e = .returned (.int .i64 (J.place (J.next + pre.length) : Int)) ∧ Mod (fun _ => False) w' w'' := fun w' hm => by
      have := place_any (hI.j.mod hm id) (J.next + pre.length) (by omega) (by omega) (by omega) hz1 (by omega)
      push_cast at this
      exact this
    have KS : ∀ w', Mod (fun _ => False) W w' → Calls Try.prog 101 #[.int .i64 ((J.next : Int) + (pre.length : Int)), .int .u8 ((apFlag b pre.length).toNat : Int), pieceV g6 (b.length + 4) x] w' fun e w'' => ∃ v, e = .returned v ∧ OwnB w'' W.heap.size v (secB (J.next + pre.length) (apFlag b pre.length) (apPiece b x)) ∧ Mod (fun _ => False) w' w'' := fun w' hm => by
      have := jsector_any (w := w') (J.next + pre.length) (by omega) (apFlag b pre.length) (some ⟨g6, 242 * x, none⟩) (apPiece b x) (min 242 (b.length + 4 - 242 * x)) (apPiece_le b x) (hbp.mod hm (fun _ _ _ => id)) W.heap.size hm.size
      rw [hpl] at this
      push_cast at this
      exact this.mono fun e w'' ⟨v, h1, h2, h3, _⟩ => ⟨v, h1, h2, h3⟩
    have hcl := secB_length (J.next + pre.length) (apFlag b pre.length) (apPiece b x) (apPiece_le b x)
    obtain ⟨c, hc⟩ : ∃ c, c = secB (J.next + pre.length) (apFlag b pre.length) (apPiece b x) := ⟨_, rfl⟩
    obtain ⟨P, hPP⟩ : ∃ P, P = J.place (J.next + pre.length) := ⟨_, rfl⟩
    rw [← hc] at hcl KS
    rw [← hPP] at hP KP
    obtain ⟨pw1, pw2⟩ := push_write (l := apWrites J b pre) hfu hgo P c hP hcl
    have hlw : (D.push (apWrites J b pre)).l.length + 1 ≤ 1048576 := by
      show (D.l ++ apWrites J b pre).length + 1 ≤ _
      rw [List.length_append, show (apWrites J b pre).length = pre.length by simp [apWrites]]
      omega
    have KW : ∀ w' av cv, Mod (fun _ => False) W w' → BytesAt w' av c → Calls Try.prog 40 #[.pointer (some ⟨p, 0, none⟩), .int .i64 (P : Int), .slice av 256 cv] w' fun e w'' => e = .returned (.int .i64 0) ∧ Mod F' w' w'' ∧ ∃ F'', DiskAt w'' B p (D.push (apWrites J b pre ++ [(P, c)])) F'' ∧ ∀ k, F'' k → F' k ∨ w'.heap.size ≤ k := fun w' av cv hm hb => by
      have := (hd'.mod hm (fun _ _ => id)).write hlw (P : Int) av c 256 cv hcl hb (by omega)
      rw [pw1, pw2] at this
      exact this
    have CS : ∀ (G : Nat → Prop) w', Mod G W w' → ¬ G q → ¬ G w.heap.size → ¬ G T → w'.cell? ⟨q, 0, none⟩ = some (.pointer (some ⟨p, 0, none⟩)) ∧ w'.cell? ⟨q, 4, none⟩ = some (.int .i64 (J.next : Int)) ∧ w'.cell? ⟨w.heap.size, 0, none⟩ = some (.pointer (some ⟨q, 0, none⟩)) ∧ w'.cell? ⟨T, 0, none⟩ = some (.int .i64 (pre.length : Int)) := fun G w' hm h1 h2 h3 =>
      ⟨hm.cell' hI.j.cell.1 h1, hm.cell' hI.j.cell.2.2.2.2.1 h1, hm.cell' e0 h2, hm.cell' e7 h3⟩
    have hno : ∀ k, k < T + 3 → (k = q ∨ w.heap.size ≤ k) → ¬ F' k := fun k hk h1 h2 => by
      rcases hF' k h2 with e | e
      · rcases h1 with rfl | h1
        · exact hq e
        · have := hF0 k e; omega
      · omega
    have hcells := hd'.cells
    have HI := Lib.hid hI
    have HC := Lib.hid hc
    have HPP := Lib.hid hPP
    have KPh := Lib.hid KP
    have KSh := Lib.hid KS
    have KWh := Lib.hid KW
    have hlen' : (pre.length : Int) < (n : Int) := by omega
    have w1 : IntKind.i64.wrap ((J.next : Int) + (pre.length : Int)) = (J.next : Int) + (pre.length : Int) := IntWalk.i64_in _ (by omega)
    clear KP KS KW hI hc hPP hbp hpl hd' pw1 pw2 hlw c0 c1 c2 c3 c4 c5 y1 y2 hsq
    generalize hkk : pre.length = k at *
    obtain ⟨fl, hfl⟩ : ∃ fl : Int, fl = if k = 0 then 1 else 0 := ⟨_, rfl⟩
    have HFL := Lib.hid hfl
    clear hfl
    gi_upto_if 58 with fail
    gi_cut [9] from 57 (fun v9 wx => v9 = .int .u8 fl ∧ wx = W)
    case first =>
      by_cases h0 : k = 0
      · have h0' : (k : Int) = 0 := by omega
        gi_wp2
        gi_meet
        exact ⟨by rw [HFL.out, if_pos h0]; rfl, rfl⟩
      · have h0' : ¬ (k : Int) = 0 := by omega
        gi_wp2
        gi_meet
        exact ⟨by rw [HFL.out, if_neg h0], rfl⟩
    case rest =>
      obtain ⟨rfl, rfl⟩ := hcut
      gi_upto_if 64 with fail
      gi_cut [9] from 57 (fun v9 wx => v9 = .int .u8 ((apFlag b k).toNat : Int) ∧ wx = wc)
      case first =>
        have hv := apFlag_val b k
        rw [← hN.out] at hv
        by_cases h0 : k + 1 = n
        · have h0' : (k : Int) = (n : Int) - 1 := by omega
          gi_wp2
          gi_meet
          rw [if_pos h0] at hv
          refine ⟨?_, rfl⟩
          rw [hv, HFL.out]
          clear hv
          by_cases hk0 : k = 0
          · simp only [if_pos hk0]; rfl
          · simp only [if_neg hk0]; rfl
        · have h0' : ¬ (k : Int) = (n : Int) - 1 := by omega
          gi_wp2
          gi_meet
          rw [if_neg h0] at hv
          refine ⟨?_, rfl⟩
          rw [hv, HFL.out]
          clear hv
          by_cases hk0 : k = 0
          · simp only [if_pos hk0]; rfl
          · simp only [if_neg hk0]; rfl
      case rest =>
        obtain ⟨rfl, rfl⟩ := hcut
        gi_upto_region 21 with fail
        have mdr : Mod (fun _ => False) wc wc.drew := Mod.drew _ _
        refine wpIn_region_round (fun w' => w'.cell? ⟨q, 0, none⟩ = some (.pointer (some ⟨p, 0, none⟩)) ∧ w'.cell? ⟨q, 4, none⟩ = some (.int .i64 (J.next : Int)) ∧ w'.cell? ⟨w.heap.size, 0, none⟩ = some (.pointer (some ⟨q, 0, none⟩)) ∧ w'.cell? ⟨T, 0, none⟩ = some (.int .i64 (k : Int))) (by kernel_rfl) (by kernel_rfl) (fun _ _ h => h) (CS _ _ mdr id id id) (fun hHeld => ?_)
        refine wpAnyH_take (i := 0) (oi := { dst := some 67, op := Op.load 76 (Operand.tmp 2), type := 76, pos := "journal.go:158", after := #[], guard := none }) (v := ?_) rfl (by kernel_rfl) (by kernel_rfl) (by kernel_rfl) (fun _ _ _ h => h) (Or.inl ⟨by rfl, ?_⟩) (by assumption) ?_
        rotate_left
        · (intro w hSw; (try dsimp only at hSw); go_simp; try with_reducible rfl)
        simp only [Act.put, List.setIfInBounds_toArray, List.set_cons_zero, List.set_cons_succ]
        refine wpAnyH_take (i := 1) (oi := { dst := some 68, op := Op.nilCheck (Operand.tmp 67), type := 0, pos := "journal.go:158", after := #[{ on := 0, ground := Ground.data }], guard := none }) (v := ?_) rfl (by kernel_rfl) (by kernel_rfl) (by kernel_rfl) (fun _ _ _ h => h) (Or.inl ⟨by rfl, ?_⟩) (by assumption) ?_
        rotate_left
        · (intro w hSw; (try dsimp only at hSw); go_simp; try with_reducible rfl)
        simp only [Act.put, List.setIfInBounds_toArray, List.set_cons_zero, List.set_cons_succ]
        refine wpAnyH_take (i := 2) (oi := { dst := some 69, op := Op.fieldAddr 137 (Operand.tmp 68) 0, type := 0, pos := "journal.go:158", after := #[{ on := 1, ground := Ground.data }], guard := none }) (v := ?_) rfl (by kernel_rfl) (by kernel_rfl) (by kernel_rfl) (fun _ _ _ h => h) (Or.inl ⟨by rfl, ?_⟩) (by assumption) ?_
        rotate_left
        · (intro w hSw; (try dsimp only at hSw); go_simp; try with_reducible rfl)
        simp only [Act.put, List.setIfInBounds_toArray, List.set_cons_zero, List.set_cons_succ]
        refine wpAnyH_take (i := 3) (oi := { dst := some 70, op := Op.load 40 (Operand.tmp 69), type := 40, pos := "journal.go:158", after := #[{ on := 2, ground := Ground.data }], guard := none }) (v := ?_) rfl (by kernel_rfl) (by kernel_rfl) (by kernel_rfl) (fun _ _ _ h => h) (Or.inl ⟨by rfl, ?_⟩) (by assumption) ?_
        rotate_left
        · (intro w hSw; (try dsimp only at hSw); go_simp; try with_reducible rfl)
        simp only [Act.put, List.setIfInBounds_toArray, List.set_cons_zero, List.set_cons_succ]
        refine wpAnyH_take (i := 4) (oi := { dst := some 71, op := Op.load 76 (Operand.tmp 2), type := 76, pos := "journal.go:158", after := #[], guard := none }) (v := ?_) rfl (by kernel_rfl) (by kernel_rfl) (by kernel_rfl) (fun _ _ _ h => h) (Or.inl ⟨by rfl, ?_⟩) (by assumption) ?_
        rotate_left
        · (intro w hSw; (try dsimp only at hSw); go_simp; try with_reducible rfl)
        simp only [Act.put, List.setIfInBounds_toArray, List.set_cons_zero, List.set_cons_succ]
        refine wpAnyH_take (i := 5) (oi := { dst := some 72, op := Op.load 76 (Operand.tmp 2), type := 76, pos := "journal.go:158", after := #[], guard := none }) (v := ?_) rfl (by kernel_rfl) (by kernel_rfl) (by kernel_rfl) (fun _ _ _ h => h) (Or.inl ⟨by rfl, ?_⟩) (by assumption) ?_
        rotate_left
        · (intro w hSw; (try dsimp only at hSw); go_simp; try with_reducible rfl)
        simp only [Act.put, List.setIfInBounds_toArray, List.set_cons_zero, List.set_cons_succ]
        refine wpAnyH_take (i := 6) (oi := { dst := some 73, op := Op.nilCheck (Operand.tmp 72), type := 0, pos := "journal.go:158", after := #[{ on := 5, ground := Ground.data }], guard := none }) (v := ?_) rfl (by kernel_rfl) (by kernel_rfl) (by kernel_rfl) (fun _ _ _ h => h) (Or.inl ⟨by rfl, ?_⟩) (by assumption) ?_
        rotate_left
        · (intro w hSw; (try dsimp only at hSw); go_simp; try with_reducible rfl)
        simp only [Act.put, List.setIfInBounds_toArray, List.set_cons_zero, List.set_cons_succ]
        refine wpAnyH_take (i := 7) (oi := { dst := some 74, op := Op.fieldAddr 137 (Operand.tmp 73) 4, type := 0, pos := "journal.go:158", after := #[{ on := 6, ground := Ground.data }], guard := none }) (v := ?_) rfl (by kernel_rfl) (by kernel_rfl) (by kernel_rfl) (fun _ _ _ h => h) (Or.inl ⟨by rfl, ?_⟩) (by assumption) ?_
        rotate_left
        · (intro w hSw; (try dsimp only at hSw); go_simp; try with_reducible rfl)
        simp only [Act.put, List.setIfInBounds_toArray, List.set_cons_zero, List.set_cons_succ]
        refine wpAnyH_take (i := 8) (oi := { dst := some 75, op := Op.load 2 (Operand.tmp 74), type := 2, pos := "journal.go:158", after := #[{ on := 7, ground := Ground.data }], guard := none }) (v := ?_) rfl (by kernel_rfl) (by kernel_rfl) (by kernel_rfl) (fun _ _ _ h => h) (Or.inl ⟨by rfl, ?_⟩) (by assumption) ?_
        rotate_left
        · (intro w hSw; (try dsimp only at hSw); go_simp; try with_reducible rfl)
        simp only [Act.put, List.setIfInBounds_toArray, List.set_cons_zero, List.set_cons_succ]
        refine wpAnyH_take (i := 9) (oi := { dst := some 76, op := Op.load 2 (Operand.tmp 7), type := 2, pos := "journal.go:158", after := #[], guard := none }) (v := ?_) rfl (by kernel_rfl) (by kernel_rfl) (by kernel_rfl) (fun _ _ _ h => h) (Or.inl ⟨by rfl, ?_⟩) (by assumption) ?_
        rotate_left
        · (intro w hSw; (try dsimp only at hSw); go_simp; try with_reducible rfl)
        simp only [Act.put, List.setIfInBounds_toArray, List.set_cons_zero, List.set_cons_succ]
        refine wpAnyH_take (i := 10) (oi := { dst := some 77, op := Op.binOp BinOp.add 2 (Operand.tmp 75) (Operand.tmp 76) 2, type := 2, pos := "journal.go:158", after := #[{ on := 8, ground := Ground.data }, { on := 9, ground := Ground.data }], guard := none }) (v := ?_) rfl (by kernel_rfl) (by kernel_rfl) (by kernel_rfl) (fun _ _ _ h => h) (Or.inl ⟨by rfl, ?_⟩) (by assumption) ?_
        rotate_left
        · (intro w hSw; (try dsimp only at hSw); go_simp; try with_reducible rfl)
        simp only [Act.put, List.setIfInBounds_toArray, List.set_cons_zero, List.set_cons_succ]
        refine wpAnyH_take (i := 12) (oi := { dst := some 79, op := Op.load 76 (Operand.tmp 2), type := 76, pos := "journal.go:158", after := #[], guard := none }) (v := ?_) rfl (by kernel_rfl) (by kernel_rfl) (by kernel_rfl) (fun _ _ _ h => h) (Or.inl ⟨by rfl, ?_⟩) (by assumption) ?_
        rotate_left
        · (intro w hSw; (try dsimp only at hSw); go_simp; try with_reducible rfl)
        simp only [Act.put, List.setIfInBounds_toArray, List.set_cons_zero, List.set_cons_succ]
        refine wpAnyH_take (i := 13) (oi := { dst := some 80, op := Op.nilCheck (Operand.tmp 79), type := 0, pos := "journal.go:158", after := #[{ on := 12, ground := Ground.data }], guard := none }) (v := ?_) rfl (by kernel_rfl) (by kernel_rfl) (by kernel_rfl) (fun _ _ _ h => h) (Or.inl ⟨by rfl, ?_⟩) (by assumption) ?_
        rotate_left
        · (intro w hSw; (try dsimp only at hSw); go_simp; try with_reducible rfl)
        simp only [Act.put, List.setIfInBounds_toArray, List.set_cons_zero, List.set_cons_succ]
        refine wpAnyH_take (i := 14) (oi := { dst := some 81, op := Op.fieldAddr 137 (Operand.tmp 80) 4, type := 0, pos := "journal.go:158", after := #[{ on := 13, ground := Ground.data }], guard := none }) (v := ?_) rfl (by kernel_rfl) (by kernel_rfl) (by kernel_rfl) (fun _ _ _ h => h) (Or.inl ⟨by rfl, ?_⟩) (by assumption) ?_
        rotate_left
        · (intro w hSw; (try dsimp only at hSw); go_simp; try with_reducible rfl)
        simp only [Act.put, List.setIfInBounds_toArray, List.set_cons_zero, List.set_cons_succ]
        refine wpAnyH_take (i := 15) (oi := { dst := some 82, op := Op.load 2 (Operand.tmp 81), type := 2, pos := "journal.go:158", after := #[{ on := 14, ground := Ground.data }], guard := none }) (v := ?_) rfl (by kernel_rfl) (by kernel_rfl) (by kernel_rfl) (fun _ _ _ h => h) (Or.inl ⟨by rfl, ?_⟩) (by assumption) ?_
        rotate_left
        · (intro w hSw; (try dsimp only at hSw); go_simp; try with_reducible rfl)
        simp only [Act.put, List.setIfInBounds_toArray, List.set_cons_zero, List.set_cons_succ]
        refine wpAnyH_take (i := 16) (oi := { dst := some 83, op := Op.load 2 (Operand.tmp 7), type := 2, pos := "journal.go:158", after := #[], guard := none }) (v := ?_) rfl (by kernel_rfl) (by kernel_rfl) (by kernel_rfl) (fun _ _ _ h => h) (Or.inl ⟨by rfl, ?_⟩) (by assumption) ?_
        rotate_left
        · (intro w hSw; (try dsimp only at hSw); go_simp; try with_reducible rfl)
        simp only [Act.put, List.setIfInBounds_toArray, List.set_cons_zero, List.set_cons_succ]
        refine wpAnyH_take (i := 17) (oi := { dst := some 84, op := Op.binOp BinOp.add 2 (Operand.tmp 82) (Operand.tmp 83) 2, type := 2, pos := "journal.go:158", after := #[{ on := 15, ground := Ground.data }, { on := 16, ground := Ground.data }], guard := none }) (v := ?_) rfl (by kernel_rfl) (by kernel_rfl) (by kernel_rfl) (fun _ _ _ h => h) (Or.inl ⟨by rfl, ?_⟩) (by assumption) ?_
        rotate_left
        · (intro w hSw; (try dsimp only at hSw); go_simp; try with_reducible rfl)
        simp only [Act.put, List.setIfInBounds_toArray, List.set_cons_zero, List.set_cons_succ]
        refine wpAnyH_take (i := 18) (oi := { dst := some 85, op := Op.move (Operand.tmp 9), type := 5, pos := "journal.go:158", after := #[], guard := none }) (v := ?_) rfl (by kernel_rfl) (by kernel_rfl) (by kernel_rfl) (fun _ _ _ h => h) (Or.inl ⟨by rfl, ?_⟩) (by assumption) ?_
        rotate_left
        · (intro w hSw; (try dsimp only at hSw); go_simp; try with_reducible rfl)
        simp only [Act.put, List.setIfInBounds_toArray, List.set_cons_zero, List.set_cons_succ]
        refine wpAnyH_take (i := 19) (oi := { dst := some 86, op := Op.move (Operand.tmp 8), type := 22, pos := "journal.go:158", after := #[], guard := none }) (v := ?_) rfl (by kernel_rfl) (by kernel_rfl) (by kernel_rfl) (fun _ _ _ h => h) (Or.inl ⟨by rfl, ?_⟩) (by assumption) ?_
        rotate_left
        · (intro w hSw; (try dsimp only at hSw); go_simp; try with_reducible rfl)
        simp only [Act.put, List.setIfInBounds_toArray, List.set_cons_zero, List.set_cons_succ]
        refine wpAnyH_ready (rs := [11]) (by kernel_rfl) (by simp) ?_
        refine AllReadyH.cons (o := { dst := some 78, op := Op.call { callee := Callee.value (Operand.func 100), args := #[Operand.tmp 71, Operand.tmp 77], argTypes := #[76, 2] }, type := 3, pos := "journal.go:158", after := #[{ on := 4, ground := Ground.data }, { on := 10, ground := Ground.data }], guard := none }) rfl (fun K hK => ?_) AllReadyH.nil
        go_simp
        refine (KPh.out _ mdr).mono ?_
        rintro e wa ⟨rfl, mwa⟩
        have ma : Mod (fun _ => False) wc wa := mdr.trans' mwa
        try simp only []
        refine hK.out _ _ (CS _ _ ma id id id) (fun _ => ?_)
        clear hK K
        try simp only [Act.put, List.setIfInBounds_toArray, List.set_cons_zero, List.set_cons_succ]
        refine wpAnyH_ready (rs := [20]) (by kernel_rfl) (by simp) ?_
        refine AllReadyH.cons (o := { dst := some 87, op := Op.call { callee := Callee.value (Operand.func 101), args := #[Operand.tmp 84, Operand.tmp 85, Operand.tmp 86], argTypes := #[2, 5, 22] }, type := 22, pos := "journal.go:158", after := #[{ on := 17, ground := Ground.data }, { on := 18, ground := Ground.data }, { on := 19, ground := Ground.data }, { on := 11, ground := Ground.chain }], guard := none }) rfl (fun K hK => ?_) AllReadyH.nil
        go_simp
        refine (KSh.out _ ma).mono ?_
        rintro e wb ⟨v, rfl, ob, mwb⟩
        have mb : Mod (fun _ => False) wc wb := ma.trans' mwb
        obtain ⟨av, cv, rfl, -, -, hbv⟩ := ob.shape
        rw [hcl]
        try simp only []
        refine hK.out _ _ (CS _ _ mb id id id) (fun _ => ?_)
        clear hK K
        try simp only [Act.put, List.setIfInBounds_toArray, List.set_cons_zero, List.set_cons_succ]
        refine wpAnyH_ready (rs := [21]) (by kernel_rfl) (by simp) ?_
        refine AllReadyH.cons (o := { dst := some 88, op := Op.call { callee := Callee.value (Operand.func 40), args := #[Operand.tmp 70, Operand.tmp 78, Operand.tmp 87], argTypes := #[40, 3, 22] }, type := 32, pos := "journal.go:158", after := #[{ on := 3, ground := Ground.data }, { on := 11, ground := Ground.data }, { on := 20, ground := Ground.data }, { on := 20, ground := Ground.chain }], guard := none }) rfl (fun K hK => ?_) AllReadyH.nil
        go_simp
        refine (KWh.out _ av cv mb hbv).mono ?_
        rintro e wd ⟨rfl, mwd, hdd'⟩
        have md : Mod F' wc wd := (mb.mono (fun _ _ e => e.elim)).trans' mwd
        try simp only []
        refine hK.out _ _ (CS _ _ md (hno q (by omega) (.inl rfl)) (hno _ (by omega) (.inr (by omega))) (hno T (by omega) (.inr (by omega)))) (fun _ => ?_)
        clear hK K
        try simp only [Act.put, List.setIfInBounds_toArray, List.set_cons_zero, List.set_cons_succ]
        refine wpAnyH_take (i := 22) (oi := { dst := some 10, op := Op.assign (Operand.tmp 88), type := 32, pos := "journal.go:158", after := #[{ on := 21, ground := Ground.data }, { on := 21, ground := Ground.chain }, { on := 0, ground := Ground.phase }, { on := 1, ground := Ground.phase }, { on := 2, ground := Ground.phase }, { on := 3, ground := Ground.phase }, { on := 4, ground := Ground.phase }, { on := 5, ground := Ground.phase }, { on := 6, ground := Ground.phase }, { on := 7, ground := Ground.phase }, { on := 8, ground := Ground.phase }, { on := 9, ground := Ground.phase }, { on := 10, ground := Ground.phase }, { on := 11, ground := Ground.phase }, { on := 12, ground := Ground.phase }, { on := 13, ground := Ground.phase }, { on := 14, ground := Ground.phase }, { on := 15, ground := Ground.phase }, { on := 16, ground := Ground.phase }, { on := 17, ground := Ground.phase }, { on := 18, ground := Ground.phase }, { on := 19, ground := Ground.phase }, { on := 20, ground := Ground.phase }, { on := 21, ground := Ground.phase }], guard := none }) (v := ?_) rfl (by kernel_rfl) (by kernel_rfl) (by kernel_rfl) (fun _ _ _ h => h) (Or.inl ⟨by rfl, ?_⟩) (by assumption) ?_
        rotate_left
        · (intro w hSw; (try dsimp only at hSw); go_simp; try with_reducible rfl)
        simp only [Act.put, List.setIfInBounds_toArray, List.set_cons_zero, List.set_cons_succ]
        refine wpAnyH_done (by kernel_rfl) ?_ _
        have hTd : Boxed wd T 2 (.int .i64 (k : Int)) := by
          have := HI.out.k0
          rw [hkk] at this
          exact md.obj this (hno T (by omega) (.inr (by omega)))
        have hp := AI.push (x := x) HI.out hT3 hg6w hg6T hq hqs hF0 hWs hF' hcells md (by
          obtain ⟨F'', h1, h2⟩ := hdd'
          rw [HPP.out, HC.out] at h1
          rw [hkk]
          exact ⟨F'', h1, fun k hk => (h2 k hk).imp id (fun e => Nat.le_trans mb.size e)⟩)
        rw [hkk] at hp
        push_cast at hp
        have x7 := Boxed.cell hTd
        have f7 := Boxed.frozen hTd
        have HPU := Lib.hid hp
        clear hp hTd hdd' ob hbv KPh KSh KWh HI
        gi_wp2
        exact ⟨HPU.out.2.1, HPU.out.2.2, HPU.out.1⟩
  case hdone =>
    intro D0 xs W hD0 hxs hI hdef
    have e0 := hI.c0.cell
    have e2 := hI.c2.cell
    have e4 := hI.j.cell.2.2.2.2.1
    have w1 : IntKind.i64.wrap ((J.next : Int) + (n : Int)) = (J.next : Int) + (n : Int) := IntWalk.i64_in _ (by omega)
    have HI := Lib.hid hI
    clear hI c0 c1 c2 c3 c4 c5 y1 y2 hsq HI0
    go_wp2_with fail
    have f4 := thaw_of (i := 4) HI.out.j
    go_region
    obtain ⟨W9, hW9⟩ : ∃ W9, W9 = (W.setCell ⟨q, 4, none⟩ (.int .i64 ((J.next : Int) + (n : Int)))).drew := ⟨_, rfl⟩
    rw [← hW9]
    have m9 : Mod (fun k => k = q) W W9 := by rw [hW9]; exact (Mod.setCell (F := fun k => k = q) _ _ _ rfl).trans' (Mod.drew _ _)
    have b9 : Boxed W9 (w.heap.size + 1) 32 (.int .i64 0) := m9.obj HI.out.c1 (by omega)
    have j9 : JAt W9 q p { J with next := J.next + n } := by
      have hb := setCell_block (i := 4) HI.out.j (.int .i64 ((J.next : Int) + (n : Int)))
      have : W9.heap[q]? = (W.setCell ⟨q, 4, none⟩ (.int .i64 ((J.next : Int) + (n : Int)))).heap[q]? := by rw [hW9]; rfl
      unfold JAt
      rw [this, hb]
      push_cast
      rfl
    have hdf : W9.heap[D0]? = some (.deferred (some [])) := m9.obj hdef (fun e => by
      subst e
      have := HI.out.j
      unfold JAt at this
      rw [this] at hdef
      cases hdef)
    have x9 := b9.cell
    have f9 := b9.frozen
    have J9 := Lib.hid j9
    have M9 := Lib.hid m9
    have HB9 := Lib.hid b9
    have HDF := Lib.hid hdf
    clear j9 m9 b9 hW9 e0 e2 e4 f4 hdef hdf
    go_wp2_with fail
    obtain ⟨W10, hW10⟩ : ∃ W10, W10 = W9.setCell ⟨w.heap.size + 1, 0, none⟩ (.int .i64 0) := ⟨_, rfl⟩
    rw [← hW10]
    have m10 : Mod (fun k => k = w.heap.size + 1) W9 W10 := by rw [hW10]; exact Mod.setCell _ _ _ rfl
    have b10 : Boxed W10 (w.heap.size + 1) 32 (.int .i64 0) := by rw [hW10]; exact Boxed.set _ HB9.out
    have hD0' : T + 3 ≤ D0 := by omega
    have hdf2 : W10.heap[D0]? = some (.deferred (some [])) := m10.obj HDF.out (by omega)
    obtain ⟨W11, hW11⟩ : ∃ W11, W11 = W10.putObj D0 (.deferred none) := ⟨_, rfl⟩
    have m11 : Mod (fun k => k = D0) W10 W11 := by rw [hW11]; exact (Mod.grown (grownBy_putObj' W10 D0 _)).mono (fun k _ e => Option.some.inj e)
    have b11 : Boxed W11 (w.heap.size + 1) 32 (.int .i64 0) := m11.obj b10 (by omega)
    refine ⟨by simp, .inl ⟨_, _, rfl, run_takeDeferred hdf2, ?_⟩⟩
    rw [← hW11]
    refine ⟨_, results_cell1 rfl _ _ rfl b11.cell, rfl, ?_, ?_, ?_⟩
    · have e : J.app b = { J with next := J.next + n } := by unfold Jr.app; rw [if_pos hok, ← hN.out]
      rw [e]
      exact ((J9.out.mod m10 (by omega)).mod m11 (by omega))
    · refine (((HI.out.m.mono (fun k _ e => Or.inl e)).trans M9.out (fun k _ e => Or.inr e)).trans m10 (fun k hk e => ?_)).trans m11 (fun k hk e => ?_)
      · omega
      · omega
    · obtain ⟨F', h1, h2⟩ := HI.out.d
      have e : J.appD D b = D.push (apWrites J b xs) := by unfold Jr.appD; rw [if_pos hok, hxs, hN.out]
      rw [e]
      have hno : ∀ k, F' k → k ≠ q ∧ k ≠ w.heap.size + 1 ∧ k ≠ D0 := fun k hk => by
        refine ⟨fun e => ?_, fun e => ?_, fun e => ?_⟩
        · subst e
          rcases h2 _ hk with e | e
          · exact hq e
          · omega
        · subst e
          rcases h2 _ hk with e | e
          · have := hF0 _ e; omega
          · omega
        · rw [e] at hk
          obtain ⟨C, t, fz, hc⟩ := h1.cells _ hk
          have := M9.out.block D0 (lt_of_block hc) (fun e => by omega)
          have hdd := HDF.out
          rw [this, hc] at hdd
          cases hdd
      exact ⟨F', ((h1.mod M9.out (fun k hk => (hno k hk).1)).mod m10 (fun k hk => (hno k hk).2.1)).mod m11 (fun k hk => (hno k hk).2.2), fun k hk => (h2 k hk).imp id (fun e => by omega)⟩

set_option maxHeartbeats 4000000 in
set_option maxRecDepth 100000 in
theorem append_no {w : World} {q p : Nat} {J : Jr} (hj : JAt w q p J) (hz : J.size ≤ 4096) (_hs : J.start ≤ J.next) (hn : J.next ≤ J.start + J.size) (htop : J.start + J.size ≤ 2305843009213693952) (a : Option Addr) (n cap : Nat) (b : List UInt8) (hb : b.length = n) (hno : J.whyApp b ≠ 0) :
    Calls Try.prog 54 #[.pointer (some ⟨q, 0, none⟩), .slice a n cap] w fun e w' => e = .returned (.int .i64 (J.whyApp b)) ∧ Mod (fun _ => False) w w' := by
  subst hb
  obtain ⟨c0, c1, c2, c3, c4, c5⟩ := hj.cell
  have hqs : q < w.heap.size := lt_of_block hj
  have fin : ∀ (w' : World) (c : Int), Mod (fun _ => False) w w' → Boxed w' (w.heap.size + 1) 32 (.int .i64 0) → Mod (fun _ => False) w (w'.setCell ⟨w.heap.size + 1, 0, none⟩ (.int .i64 c)) ∧ (w'.setCell ⟨w.heap.size + 1, 0, none⟩ (.int .i64 c)).cell? ⟨w.heap.size + 1, 0, none⟩ = some (.int .i64 c) := fun w' c hm hb =>
    ⟨hm.trans (Mod.setCell (F := fun k => k = w.heap.size + 1) _ _ _ rfl) (fun k hk e => by omega), (Boxed.set _ hb).cell⟩
  have hb2 : Boxed ((w.alloc (Obj.cells #[Value.pointer (some ⟨q, 0, none⟩)] 76)).alloc (Obj.cells #[Value.int IntKind.i64 0] 32)) (w.heap.size + 1) 32 (.int .i64 0) := by
    have := heap_alloc_new (w.alloc (Obj.cells #[Value.pointer (some ⟨q, 0, none⟩)] 76)) (Obj.cells #[Value.int IntKind.i64 0] 32)
    unfold Boxed
    simpa using this
  have m2 : Mod (fun _ => False) w ((w.alloc (Obj.cells #[Value.pointer (some ⟨q, 0, none⟩)] 76)).alloc (Obj.cells #[Value.int IntKind.i64 0] 32)) := (Mod.alloc _ _ _).trans' (Mod.alloc _ _ _)
  have fin0 : ∀ c : Int, Mod (fun _ => False) w ((w.alloc (Obj.cells #[Value.pointer (some ⟨q, 0, none⟩)] 76)).alloc (Obj.cells #[Value.int IntKind.i64 c] 32)) ∧ ((w.alloc (Obj.cells #[Value.pointer (some ⟨q, 0, none⟩)] 76)).alloc (Obj.cells #[Value.int IntKind.i64 c] 32)).cell? ⟨w.heap.size + 1, 0, none⟩ = some (.int .i64 c) := fun c => by
    refine ⟨(Mod.alloc _ _ _).trans' (Mod.alloc _ _ _), Boxed.cell (t := 32) ?_⟩
    have := heap_alloc_new (w.alloc (Obj.cells #[Value.pointer (some ⟨q, 0, none⟩)] 76)) (Obj.cells #[Value.int IntKind.i64 c] 32)
    unfold Boxed
    simpa using this
  have FIN := Lib.hid fin
  have FIN0 := Lib.hid fin0
  clear fin0
  have HB2 := Lib.hid hb2
  have M2 := Lib.hid m2
  clear fin hb2 m2
  by_cases hdd : J.dead = true
  · have e : J.whyApp b = 21 := by unfold Jr.whyApp; rw [if_pos hdd]
    rw [e]
    rw [hdd] at c5
    clear e hno
    go_enter Try.func54, Try.ntmps54
    go_wp2
    obtain ⟨h1, h2⟩ := FIN0.out 21
    refine bodyPost_ret (results_cell1 rfl _ _ rfl h2) rfl ?_
    exact ⟨rfl, h1⟩
  · have hdf : J.dead = false := by simpa using hdd
    rw [hdf] at c5
    by_cases hbl : 8192 < b.length
    · have e : J.whyApp b = 3 := by unfold Jr.whyApp; rw [if_neg hdd, if_pos hbl]
      rw [e]
      have hbl' : (8192 : Int) < (b.length : Int) := by omega
      clear e hno
      go_enter Try.func54, Try.ntmps54
      go_wp2
      obtain ⟨h1, h2⟩ := FIN0.out 3
      refine bodyPost_ret (results_cell1 rfl _ _ rfl h2) rfl ?_
      exact ⟨rfl, h1⟩
    · have hr : J.start + J.size < J.next + apN b := by
        unfold Jr.whyApp at hno
        rw [if_neg hdd, if_neg hbl] at hno
        split at hno
        · assumption
        · exact absurd rfl hno
      have e : J.whyApp b = 4 := by unfold Jr.whyApp; rw [if_neg hdd, if_neg hbl, if_pos hr]
      rw [e]
      have hbl' : (b.length : Int) ≤ 8192 := by omega
      have hnb : apN b ≤ 34 := by unfold apN; omega
      clear e hno
      obtain ⟨n, hn'⟩ : ∃ n, n = apN b := ⟨_, rfl⟩
      rw [← hn'] at hr hnb
      have hN := Lib.hid hn'
      clear hn'
      have K97 := fun w' => sectors_any (w := w') b.length (by omega)
      rw [show (b.length + 245) / 242 = n from hN.out.symm] at K97
      have w1 : IntKind.i64.wrap ((J.next : Int) + (n : Int)) = (J.next : Int) + (n : Int) := IntWalk.i64_in _ (by omega)
      have w2 : IntKind.i64.wrap ((J.next : Int) + (n : Int) - (J.start : Int)) = (J.next : Int) + (n : Int) - (J.start : Int) := IntWalk.i64_in _ (by omega)
      have hle : (J.size : Int) < (J.next : Int) + (n : Int) - (J.start : Int) := by omega
      go_enter Try.func54, Try.ntmps54
      go_wp2_with (go_at_call 97; refine (K97 _).mono ?_; rintro e w' ⟨rfl, rfl⟩)
      obtain ⟨W3, hW3⟩ : ∃ W3, W3 = ((w.alloc (Obj.cells #[Value.pointer (some ⟨q, 0, none⟩)] 76)).alloc (Obj.cells #[Value.int IntKind.i64 0] 32)).alloc (Obj.cells #[Value.int IntKind.i64 (n : Int)] 2) := ⟨_, rfl⟩
      rw [← hW3]
      have m3 : Mod (fun _ => False) w W3 := by rw [hW3]; exact M2.out.trans' (Mod.alloc _ _ _)
      have b0 : Boxed W3 w.heap.size 76 (.pointer (some ⟨q, 0, none⟩)) := by
        unfold Boxed; rw [hW3, Below.heap_alloc _ _ _ (by simp; omega), Below.heap_alloc _ _ _ (by simp), heap_alloc_new]
      have b1 : Boxed W3 (w.heap.size + 1) 32 (.int .i64 0) := by
        rw [hW3]; exact Mod.obj (Mod.alloc (fun _ => False) _ _) HB2.out id
      have b2 : Boxed W3 (w.heap.size + 1 + 1) 2 (.int .i64 (n : Int)) := by
        unfold Boxed; rw [hW3]
        have := heap_alloc_new ((w.alloc (Obj.cells #[Value.pointer (some ⟨q, 0, none⟩)] 76)).alloc (Obj.cells #[Value.int IntKind.i64 0] 32)) (Obj.cells #[Value.int IntKind.i64 (n : Int)] 2)
        simpa using this
      clear hW3 K97 HB2 M2
      have x0 := b0.cell
      have x1 := b1.cell
      have x2 := b2.cell
      have f1 := b1.frozen
      have d2 := m3.cell' c2 id
      have d3 := m3.cell' c3 id
      have d4 := m3.cell' c4 id
      have M3 := Lib.hid (m3.trans' (Mod.drew _ _))
      have B1 := Lib.hid ((Mod.drew (fun _ => False) W3).obj b1 id)
      clear m3 b0 b1 b2
      go_region_held3 (fun w' => w'.cell? ⟨q, 2, none⟩ = some (.int .i64 (J.size : Int)) ∧ w'.cell? ⟨q, 3, none⟩ = some (.int .i64 (J.start : Int)) ∧ w'.cell? ⟨q, 4, none⟩ = some (.int .i64 (J.next : Int)) ∧ w'.cell? ⟨w.heap.size, 0, none⟩ = some (.pointer (some ⟨q, 0, none⟩)) ∧ w'.cell? ⟨w.heap.size + 1 + 1, 0, none⟩ = some (.int .i64 (n : Int))) (refine ⟨?_, ?_, ?_, ?_, ?_⟩ <;> simpa using (by assumption)) (fail)
      go_wp2
      obtain ⟨h1, h2⟩ := FIN.out _ 4 M3.out B1.out
      refine bodyPost_ret (results_cell1 rfl _ _ rfl h2) rfl ?_
      exact ⟨rfl, h1⟩

theorem append_nil {w : World} (a : Option Addr) (n cap : Nat) :
    Calls Try.prog 54 #[.pointer none, .slice a n cap] w fun e w' => e = .returned (.int .i64 2) ∧ Mod (fun _ => False) w w' := by
  have fin0 : ∀ c : Int, Mod (fun _ => False) w ((w.alloc (Obj.cells #[Value.pointer none] 76)).alloc (Obj.cells #[Value.int IntKind.i64 c] 32)) ∧ ((w.alloc (Obj.cells #[Value.pointer none] 76)).alloc (Obj.cells #[Value.int IntKind.i64 c] 32)).cell? ⟨w.heap.size + 1, 0, none⟩ = some (.int .i64 c) := fun c => by
    refine ⟨(Mod.alloc _ _ _).trans' (Mod.alloc _ _ _), Boxed.cell (t := 32) ?_⟩
    have := heap_alloc_new (w.alloc (Obj.cells #[Value.pointer none] 76)) (Obj.cells #[Value.int IntKind.i64 c] 32)
    unfold Boxed
    simpa using this
  have FIN0 := Lib.hid fin0
  clear fin0
  go_enter Try.func54, Try.ntmps54
  go_wp2
  obtain ⟨h1, h2⟩ := FIN0.out 2
  refine bodyPost_ret (results_cell1 rfl _ _ rfl h2) rfl ?_
  exact ⟨rfl, h1⟩
theorem jnil_calls (w : World) :
    (Calls Try.prog 55 #[.pointer none] w fun e w' => e = .returned (.int .i64 2) ∧ w = w') ∧
    (∀ n : Int, Calls Try.prog 60 #[.pointer none, .int .i64 n] w fun e w' => e = .returned (.int .i64 2) ∧ w = w') ∧
    (Calls Try.prog 61 #[.pointer none] w fun e w' => e = .returned (.int .i64 0) ∧ w = w') ∧
    (Calls Try.prog 57 #[.pointer none] w fun e w' => e = .returned (.int .i64 0) ∧ w = w') ∧
    (Calls Try.prog 59 #[.pointer none] w fun e w' => e = .returned (.int .i64 0) ∧ w = w') ∧
    (Calls Try.prog 62 #[.pointer none] w fun e w' => e = .returned (.bool false) ∧ w = w') := by
  refine ⟨?_, fun n => ?_, ?_, ?_, ?_, ?_⟩
  · go_enter Try.func55, Try.ntmps55
    go_wp2
    go_ret
    exact ⟨rfl, rfl⟩
  · go_enter Try.func60, Try.ntmps60
    go_wp2
    go_ret
    exact ⟨rfl, rfl⟩
  · go_enter Try.func61, Try.ntmps61
    go_wp2
    go_ret
    exact ⟨rfl, rfl⟩
  · go_enter Try.func57, Try.ntmps57
    go_wp2
    go_ret
    exact ⟨rfl, rfl⟩
  · go_enter Try.func59, Try.ntmps59
    go_wp2
    go_ret
    exact ⟨rfl, rfl⟩
  · go_enter Try.func62, Try.ntmps62
    go_wp2
    go_ret
    exact ⟨rfl, rfl⟩
end Go.Proofs.Ytdinnkacilgmmaa
