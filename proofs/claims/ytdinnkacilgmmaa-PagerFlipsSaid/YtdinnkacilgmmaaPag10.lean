/- The pager: Write. -/
import Derived.Test.YtdinnkacilgmmaaPag9
import Derived.Test.YtdinnkacilgmmaaJour10
namespace Go.Proofs.Ytdinnkacilgmmaa
open Go.RowKit

def Pgr.writeAt (P : Pgr) (D : Dsk) (b : List UInt8) (e : Nat) : Int × Int × Pgr × Dsk :=
  if D.why ((P.frm + 2 + e : Nat) : Int) (seal_ b) = 0 then ((e : Int), 0, { P with is_ := P.is_.set e 2 }, D.write ((P.frm + 2 + e : Nat) : Int) (seal_ b))
  else (0, D.why ((P.frm + 2 + e : Nat) : Int) (seal_ b), { P with dead := true }, D.write ((P.frm + 2 + e : Nat) : Int) (seal_ b))
def Pgr.write (P : Pgr) (D : Dsk) (b : List UInt8) : Int × Int × Pgr × Dsk :=
  if P.dead = true then (0, 21, P, D) else if 252 < b.length then (0, 3, P, D) else if P.empties.length = 0 then (0, 4, P, D) else P.writeAt D b (P.empties.getD 0 0)

theorem results_cell2 {fn : Func} {p1 p2 : Tmp} {b1 b2 : Nat} {x y : Int} (h : fn.results = #[.cell p1 3, .cell p2 32]) (tmps : Array Value) (w : World) (hp1 : tmps.getD p1 undef = .pointer (some ⟨b1, 0, none⟩)) (hp2 : tmps.getD p2 undef = .pointer (some ⟨b2, 0, none⟩))
    (hc1 : w.cell? ⟨b1, 0, none⟩ = some (.int .i64 x)) (hc2 : w.cell? ⟨b2, 0, none⟩ = some (.int .i64 y)) : (results fn tmps).run Try.prog w = .ok (.tuple #[.int .i64 x, .int .i64 y]) w := by
  simp only [results, h]
  have hp1' : tmps[p1]?.getD undef = .pointer (some ⟨b1, 0, none⟩) := by simpa using hp1
  have hp2' : tmps[p2]?.getD undef = .pointer (some ⟨b2, 0, none⟩) := by simpa using hp2
  simp [hp1', hp2', asAddr, go_sem, hc1, hc2]

/-- ahead of Write's round -/
structure WI (w : World) (B B2 q p : Nat) (vm : Value) (P : Pgr) (D : Dsk) (F : Nat → Prop) (a : Option Addr) (b : List UInt8) (cap : Nat) (W : World) : Prop where
  b0 : Boxed W w.heap.size 93 (.pointer (some ⟨q, 0, none⟩))
  b1 : Boxed W (w.heap.size + 1) 22 (.slice a b.length cap)
  b2 : Boxed W (w.heap.size + 2) 3 (.int .i64 0)
  b3 : Boxed W (w.heap.size + 3) 32 (.int .i64 0)
  b4 : Boxed W (w.heap.size + 4) 93 (.pointer (some ⟨q, 0, none⟩))
  pg : PgV W B q p vm P
  dk : DiskAt W B2 p D F
  by_ : BytesAt W a b
  m : Mod (fun _ => False) w W
/-- behind it -/
structure WX (w : World) (B B2 q p : Nat) (vm : Value) (F : Nat → Prop) (o : Int × Int × Pgr × Dsk) (W : World) : Prop where
  b2 : Boxed W (w.heap.size + 2) 3 (.int .i64 o.1)
  b3 : Boxed W (w.heap.size + 3) 32 (.int .i64 o.2.1)
  pg : PgV W B q p vm o.2.2.1
  dk : ∃ F', DiskAt W B2 p o.2.2.2 F' ∧ ∀ k, F' k → F k ∨ w.heap.size + 5 ≤ k
  m : Mod (fun k => k = q ∨ F k) w W

/-- a row that is not of cells is not the pager's, nor the disk's -/
theorem PgV.grow {W W' : World} {row : Option Nat} {B q p : Nat} {vm : Value} {P : Pgr} (h : PgV W B q p vm P) (hg : W.grownBy W' row) (hr : ∀ r, row = some r → ∃ o : Obj, W.heap[r]? = some o ∧ o.isCells = false) : PgV W' B q p vm P := by
  have hm : Mod (fun k => some k = row) W W' := Mod.grown hg
  have key : ∀ {k : Nat} {C : Array Value} {t : TypeId} {fz : Nat × Nat}, W.heap[k]? = some (.cells C t fz) → ¬ some k = row := fun {k C t fz} hk e => by
    obtain ⟨o, ho, hc⟩ := hr k e.symm
    rw [hk] at ho
    injection ho with ho
    subst ho
    simp [Obj.isCells] at hc
  refine h.mod hm (fun k hk => ?_)
  rcases hk with rfl | hk
  · exact key h.at_
  · rcases h.mt.2 with ⟨rfl, _⟩ | ⟨g', cap, cur, rfl, _, hgg, _⟩
    · simp [Value.ownBlock] at hk
    · simp [Value.ownBlock] at hk
      subst hk
      exact key hgg
theorem DiskAt.grow {W W' : World} {row : Option Nat} {B p : Nat} {D : Dsk} {F : Nat → Prop} (h : DiskAt W B p D F) (hg : W.grownBy W' row) (hr : ∀ r, row = some r → ∃ o : Obj, W.heap[r]? = some o ∧ o.isCells = false) : DiskAt W' B p D F := by
  refine h.mod (Mod.grown hg : Mod (fun k => some k = row) W W') (fun k hk e => ?_)
  obtain ⟨o, ho, hc⟩ := hr k e.symm
  obtain ⟨C, t, fz, hk2⟩ := h.cells k hk
  rw [hk2] at ho
  injection ho with ho
  subst ho
  simp [Obj.isCells] at hc
theorem WI.own {w : World} {B B2 q p : Nat} {vm : Value} {P : Pgr} {D : Dsk} {F : Nat → Prop} {a : Option Addr} {b : List UInt8} {cap : Nat} (hb : BytesAt w a b) :
    OwnFrom (w.heap.size + 5) (fun pre W => pre = ([] : List Nat) ∧ WI w B B2 q p vm P D F a b cap W) := fun s W W' row h hg hr => by
  obtain ⟨h0, h⟩ := h
  have hm : Mod (fun k => some k = row) W W' := Mod.grown hg
  have key : ∀ {k : Nat} {o : Obj}, k < w.heap.size + 5 → W.heap[k]? = some o → W'.heap[k]? = some o := fun {k o} hk ho => hm.obj ho (fun e => by have := (hr k e.symm).1; omega)
  have hm' : Mod (fun _ => False) w W' := h.m.trans hm (fun k hk e => by have := (hr k e.symm).1; omega)
  exact ⟨h0, key (by omega) h.b0, key (by omega) h.b1, key (by omega) h.b2, key (by omega) h.b3, key (by omega) h.b4, h.pg.grow hg (fun r e => (hr r e).2), h.dk.grow hg (fun r e => (hr r e).2), hb.mod hm' (fun _ _ _ => id), hm'⟩
theorem WX.own {w : World} {B B2 q p : Nat} {vm : Value} {F : Nat → Prop} {o : List Nat → Int × Int × Pgr × Dsk} {X : List Nat → Prop} :
    OwnFrom (w.heap.size + 5) (fun pre W => X pre ∧ WX w B B2 q p vm F (o pre) W) := fun s W W' row h hg hr => by
  obtain ⟨h0, h⟩ := h
  have hm : Mod (fun k => some k = row) W W' := Mod.grown hg
  have key : ∀ {k : Nat} {o : Obj}, k < w.heap.size + 5 → W.heap[k]? = some o → W'.heap[k]? = some o := fun {k o} hk ho => hm.obj ho (fun e => by have := (hr k e.symm).1; omega)
  obtain ⟨F', hd, hF⟩ := h.dk
  exact ⟨h0, key (by omega) h.b2, key (by omega) h.b3, h.pg.grow hg (fun r e => (hr r e).2), ⟨F', hd.grow hg (fun r e => (hr r e).2), hF⟩, h.m.trans hm (fun k hk e => by have := (hr k e.symm).1; omega)⟩

theorem wx_fin {w W Wm : World} {B B2 q p : Nat} {vm : Value} {P' : Pgr} {D' : Dsk} {F : Nat → Prop} {x0 y0 x y : Int} (hqw : q < w.heap.size) (hFw : ∀ k, F k → k < w.heap.size) (hmw : ∀ k, vm.ownBlock = some k → k < w.heap.size) (hWs : w.heap.size + 5 ≤ W.heap.size)
    (hmW : Mod (fun _ => False) w W) (hm : Mod (fun k => k = q ∨ F k) W Wm) (hkeep : ∀ k, k = q ∨ F k → ∃ C t fz, W.heap[k]? = some (.cells C t fz)) (hpg : PgV Wm B q p vm P') (hdk : ∃ F', DiskAt Wm B2 p D' F' ∧ ∀ k, F' k → F k ∨ W.heap.size ≤ k)
    (b2W : Boxed W (w.heap.size + 2) 3 (.int .i64 x0)) (b3W : Boxed W (w.heap.size + 3) 32 (.int .i64 y0)) :
    KeepsOthers W ((Wm.setCell ⟨w.heap.size + 2, 0, none⟩ (.int .i64 x)).setCell ⟨w.heap.size + 3, 0, none⟩ (.int .i64 y)) ∧ WX w B B2 q p vm F (x, y, P', D') ((Wm.setCell ⟨w.heap.size + 2, 0, none⟩ (.int .i64 x)).setCell ⟨w.heap.size + 3, 0, none⟩ (.int .i64 y)) := by
  have m23 : Mod (fun k => k = w.heap.size + 2 ∨ k = w.heap.size + 3) Wm ((Wm.setCell ⟨w.heap.size + 2, 0, none⟩ (.int .i64 x)).setCell ⟨w.heap.size + 3, 0, none⟩ (.int .i64 y)) := (Mod.setCell _ _ _ (.inl rfl)).trans' (Mod.setCell _ _ _ (.inr rfl))
  have hb2 : Boxed Wm (w.heap.size + 2) 3 (.int .i64 x0) := hm.obj b2W (fun h => h.elim (fun h => by omega) (fun h => by have := hFw _ h; omega))
  have hb3 : Boxed Wm (w.heap.size + 3) 32 (.int .i64 y0) := hm.obj b3W (fun h => h.elim (fun h => by omega) (fun h => by have := hFw _ h; omega))
  refine ⟨(keeps_of_mod hm hkeep).trans ((KeepsOthers.setCell _ _ _).trans (KeepsOthers.setCell _ _ _)), ?_, ?_, hpg.mod m23 (fun k hk e => ?_), ?_, ((hmW.mono (fun _ _ e => e.elim)).trans' hm).trans m23 (fun k hk e => by omega)⟩
  · exact (Mod.setCell (F := fun k => k = w.heap.size + 3) _ _ _ rfl).obj (Boxed.set _ hb2) (by omega)
  · exact Boxed.set _ ((Mod.setCell (F := fun k => k = w.heap.size + 2) Wm _ _ rfl).obj hb3 (by omega))
  · rcases hk with rfl | hk
    · omega
    · have := hmw k hk.symm; omega
  · obtain ⟨F', h1, h2⟩ := hdk
    refine ⟨F', h1.mod m23 (fun k hk e => ?_), fun k hk => (h2 k hk).imp id (fun e => by omega)⟩
    rcases h2 k hk with h | h
    · have := hFw k h; omega
    · omega

attribute [local go_sem] Oper.semAt_some

/-- what Write leaves -/
def WSaid (w : World) (B B2 q p : Nat) (vm : Value) (F : Nat → Prop) (o : Int × Int × Pgr × Dsk) (e : Ending) (w' : World) : Prop :=
  e = .returned (.tuple #[.int .i64 o.1, .int .i64 o.2.1]) ∧ PgV w' B q p vm o.2.2.1 ∧ (∃ F', DiskAt w' B2 p o.2.2.2 F' ∧ ∀ k, F' k → F k ∨ w.heap.size ≤ k) ∧ Mod (fun k => k = q ∨ F k) w w'

set_option maxHeartbeats 2000000 in
set_option maxRecDepth 100000 in
theorem pwrite_main {w : World} {B B2 q p : Nat} {vm : Value} {P : Pgr} {D : Dsk} {F : Nat → Prop} (hp : PgV w B q p vm P) (hd : DiskAt w B2 p D F) (hwf : P.wf D) (hqF : ¬ F q) (hmF : ∀ k, vm.ownBlock = some k → ¬ F k)
    (a : Option Addr) (b : List UInt8) (n cap : Nat) (hn : b.length = n) (hb : BytesAt w a b) (hlim : D.l.length + 1 ≤ 1048576) (hdd : P.dead = false) (hbl : b.length ≤ 252) :
    Calls Try.prog 66 #[.pointer (some ⟨q, 0, none⟩), .slice a n cap] w fun e w' => WSaid w B B2 q p vm F (if P.empties.length = 0 then (0, 4, P, D) else P.writeAt D b (P.empties.getD 0 0)) e w' := by
  obtain ⟨o, ho⟩ : ∃ o, o = (if P.empties.length = 0 then (0, 4, P, D) else P.writeAt D b (P.empties.getD 0 0)) := ⟨_, rfl⟩
  rw [← ho]
  have HO := Lib.hid ho
  clear ho
  subst hn
  refine callsIn_wide.1 (callsIn_of_wp_marks (F := Fence.wide) (n := 5) Try.func66 rfl trivial (wpIn_wide.2 ?_) rfl)
  simp only [Try.ntmps66, List.size_toArray, List.length_cons, List.length_nil, Nat.reduceAdd, Nat.reduceSub, Array.replicate_succ, Array.replicate_zero, List.push_toArray, List.append_toArray, List.nil_append, List.cons_append]
  obtain ⟨W4, hW4⟩ : ∃ W4, W4 = (((w.alloc (.cells #[.pointer (some ⟨q, 0, none⟩)] 93)).alloc (.cells #[.slice a b.length cap] 22)).alloc (.cells #[.int .i64 0] 3)).alloc (.cells #[.int .i64 0] 32) := ⟨_, rfl⟩
  have m4 : Mod (fun _ => False) w W4 := by rw [hW4]; exact (((Mod.alloc _ _ _).trans' (Mod.alloc _ _ _)).trans' (Mod.alloc _ _ _)).trans' (Mod.alloc _ _ _)
  have c5 := m4.cell' hp.tail.2.2.2.2 id
  have z4 : W4.heap.size = w.heap.size + 4 := by rw [hW4]; simp
  rw [hdd, hW4] at c5
  have hbl' : (b.length : Int) ≤ 252 := by omega
  go_wp2_with (go_at_call 105; refine (empty_any _ _).mono ?_; rintro e w' ⟨rfl, rfl⟩)
  obtain ⟨W5, hW5⟩ : ∃ W5, W5 = W4.alloc (.cells #[.pointer (some ⟨q, 0, none⟩)] 93) := ⟨_, rfl⟩
  rw [← hW4, ← hW5]
  simp only [Nat.add_assoc, Nat.reduceAdd]
  have m5 : Mod (fun _ => False) w W5 := by rw [hW5]; exact m4.trans' (Mod.alloc _ _ _)
  have z5 : W5.heap.size = w.heap.size + 5 := by rw [hW5]; simp [z4]
  have hI0 : WI w B B2 q p vm P D F a b cap W5 := by
    have hz : ∀ (A1 A2 A3 A4 : Obj), ((((w.alloc A1).alloc A2).alloc A3).alloc A4).heap[w.heap.size]? = some A1 ∧ ((((w.alloc A1).alloc A2).alloc A3).alloc A4).heap[w.heap.size + 1]? = some A2 ∧ ((((w.alloc A1).alloc A2).alloc A3).alloc A4).heap[w.heap.size + 2]? = some A3 ∧ ((((w.alloc A1).alloc A2).alloc A3).alloc A4).heap[w.heap.size + 3]? = some A4 := fun A1 A2 A3 A4 => by
      refine ⟨?_, ?_, ?_, ?_⟩
      · rw [heap_alloc_old _ _ (by simp; omega), heap_alloc_old _ _ (by simp; omega), heap_alloc_old _ _ (by simp), heap_alloc_new]
      · rw [heap_alloc_old _ _ (by simp), heap_alloc_old _ _ (by simp)]; exact heap_alloc2_new _ _ _
      · rw [heap_alloc_old _ _ (by simp)]
        have := heap_alloc_new ((w.alloc A1).alloc A2) A3
        simpa using this
      · have := heap_alloc_new (((w.alloc A1).alloc A2).alloc A3) A4
        simpa using this
    obtain ⟨k0, k1, k2, k3⟩ := hz (.cells #[.pointer (some ⟨q, 0, none⟩)] 93) (.cells #[.slice a b.length cap] 22) (.cells #[.int .i64 0] 3) (.cells #[.int .i64 0] 32)
    rw [← hW4] at k0 k1 k2 k3
    have m45 : Mod (fun _ => False) W4 W5 := by rw [hW5]; exact Mod.alloc _ _ _
    refine ⟨m45.obj k0 id, m45.obj k1 id, m45.obj k2 id, m45.obj k3 id, ?_, hp.mod m5 (fun _ _ => id), hd.mod m5 (fun _ _ => id), hb.mod m5 (fun _ _ _ => id), m5⟩
    unfold Boxed
    rw [hW5, ← z4]
    exact heap_alloc_new _ _
  have hlen := hp.len
  have hpg : P.pages ≤ 4096 := by have := hwf.fit; have := hwf.top; omega
  have hsq := empty_seq (w.heap.size + 4) q p vm P hlen hpg W5 hI0.b4 hI0.pg.at_
  have HI0 := Lib.hid hI0
  clear hI0 c5 hW5 hW4 z4 m4 m5
  refine (wpIn_wide (n := 5)).1 ?_
  refine wpIn_rangeFunc_ownF (F := Fence.wide) (n := 5) rfl (by decide) rfl trivial (fun _ _ => rfl) hsq (fun h k => ⟨k.1.trans h.1, fun hx => k.2 (h.2 hx)⟩) ?hKb (Below.refl _ _) (fun _ => rfl)
    (fun pre W => pre = ([] : List Nat) ∧ WI w B B2 q p vm P D F a b cap W) (fun c pre W => (c = .ret ∧ pre.length = 1) ∧ WX w B B2 q p vm F (P.writeAt D b (P.empties.getD (pre.getLastD 0) 0)) W) (by rw [z5]; exact WI.own hb) (fun c => by rw [z5]; exact WX.own) ⟨rfl, HI0.out⟩ ?a1 ?hassign ?hbody ?hdone ?hstop
  case hassign =>
    intro lp x W K hK
    unfold empV
    gi_wp2
    exact hK
  case hKb =>
    intro W lp o o' hlp ho hno _
    refine ⟨World.cell?_of_block (a := ⟨w.heap.size + 4, 0, none⟩) (World.putObj_heap_other (by show w.heap.size + 4 ≠ lp; omega)), fun hx => ?_⟩
    refine ((Mod.grown (grownBy_putObj' W lp o')).mono (fun k _ e => Option.some.inj e) : Mod (fun k => k = lp) W (W.putObj lp o')).obj hx (fun e => ?_)
    subst e
    rw [ho] at hx
    injection hx with hx
    subst hx
    simp [Obj.isCells] at hno
  case hdone =>
    intro D0 xs W hD0 hxs hI hdef
    obtain ⟨h0, hI⟩ := hI
    have hne : P.empties.length = 0 := by
      rw [h0] at hxs
      have := congrArg List.length hxs
      rw [List.length_range] at this
      exact this.symm
    have x2 := hI.b2.cell
    have x3 := hI.b3.cell
    have f2 := hI.b2.frozen
    have f3 := hI.b3.frozen
    have m23 : Mod (fun k => k = w.heap.size + 2 ∨ k = w.heap.size + 3) W ((W.setCell ⟨w.heap.size + 2, 0, none⟩ (.int .i64 0)).setCell ⟨w.heap.size + 3, 0, none⟩ (.int .i64 4)) := (Mod.setCell _ _ _ (.inl rfl)).trans' (Mod.setCell _ _ _ (.inr rfl))
    have hW : WX w B B2 q p vm F (0, 4, P, D) ((W.setCell ⟨w.heap.size + 2, 0, none⟩ (.int .i64 0)).setCell ⟨w.heap.size + 3, 0, none⟩ (.int .i64 4)) := by
      have hqw := lt_of_block hp.at_
      refine ⟨?_, ?_, hI.pg.mod m23 (fun k hk e => ?_), ⟨F, hI.dk.mod m23 (fun k hk e => ?_), fun k hk => .inl hk⟩, (hI.m.mono (fun _ _ e => e.elim)).trans m23 (fun k hk e => by omega)⟩
      · exact (Mod.setCell (F := fun k => k = w.heap.size + 3) _ _ _ rfl).obj (Boxed.set _ hI.b2) (by omega)
      · exact Boxed.set _ ((Mod.setCell (F := fun k => k = w.heap.size + 2) W _ _ rfl).obj hI.b3 (by omega))
      · rcases hk with rfl | hk
        · omega
        · have := (World.ownsRow.lt hp.mt k hk.symm).2
          omega
      · have := (hd.lt k hk).2
        omega
    have hdf : ((W.setCell ⟨w.heap.size + 2, 0, none⟩ (.int .i64 0)).setCell ⟨w.heap.size + 3, 0, none⟩ (.int .i64 4)).heap[D0]? = some (.deferred (some [])) := m23.obj hdef (by omega)
    have HW := Lib.hid hW
    have HDF := Lib.hid hdf
    clear hW hdf hdef m23 hI HI0 hsq
    go_wp2
    refine ⟨by simp, .inl ⟨_, _, rfl, run_takeDeferred HDF.out, ?_⟩⟩
    have X := (WX.own (w := w) (B := B) (B2 := B2) (q := q) (p := p) (vm := vm) (F := F) (o := fun _ => ((0 : Int), (4 : Int), P, D)) (X := fun _ => True) ([] : List Nat) _ _ _ ⟨trivial, HW.out⟩ (grownBy_putObj' _ D0 (.deferred Option.none)) (fun r e => by cases e; exact ⟨by omega, _, HDF.out, rfl⟩)).2
    obtain ⟨F', hF1, hF2⟩ := X.dk
    exact ⟨_, results_cell2 rfl _ _ rfl rfl X.b2.cell X.b3.cell, by rw [HO.out, if_pos hne]; exact ⟨rfl, X.pg, ⟨F', hF1, fun k hk => (hF2 k hk).imp id (fun e => by omega)⟩, X.m⟩⟩
  case hstop =>
    intro D0 c pre W hD0 hsp hX hdef
    obtain ⟨⟨rfl, hlen1⟩, hX⟩ := hX
    obtain ⟨k, hk, rfl⟩ := hsp
    rw [List.length_range] at hlen1
    subst hlen1
    have hne : ¬ P.empties.length = 0 := by omega
    have HX := Lib.hid hX
    have HDF := Lib.hid hdef
    clear hX hdef HI0 hsq
    gi_wp2
    refine ⟨by simp, .inl ⟨_, _, rfl, run_takeDeferred HDF.out, ?_⟩⟩
    have X := (WX.own (w := w) (B := B) (B2 := B2) (q := q) (p := p) (vm := vm) (F := F) (o := fun _ => P.writeAt D b (P.empties.getD 0 0)) (X := fun _ => True) ([] : List Nat) _ _ _ ⟨trivial, HX.out⟩ (grownBy_putObj' _ D0 (.deferred Option.none)) (fun r e => by cases e; exact ⟨by omega, _, HDF.out, rfl⟩)).2
    obtain ⟨F', hF1, hF2⟩ := X.dk
    exact ⟨_, results_cell2 rfl _ _ rfl rfl X.b2.cell X.b3.cell, by rw [HO.out, if_neg hne]; exact ⟨rfl, X.pg, ⟨F', hF1, fun k hk => (hF2 k hk).imp id (fun e => by omega)⟩, X.m⟩⟩
  case hbody =>
    intro lp pre x W hI hlen2
    obtain ⟨rfl, hI⟩ := hI
    have x0 := hI.b0.cell
    have x1 := hI.b1.cell
    have y0 := hI.pg.head.1
    have y1 := hI.pg.head.2.1
    have hqw := lt_of_block hp.at_
    have hFw : ∀ k, F k → k < w.heap.size := fun k hk => (hd.lt k hk).2
    have hmw : ∀ k, vm.ownBlock = some k → k < w.heap.size := fun k hk => (World.ownsRow.lt hp.mt k hk).2
    have hWs : w.heap.size + 5 ≤ W.heap.size := by have := lt_of_block hI.b4; omega
    have hel := empties_lt P hwf.pos x
    have hfit := hwf.fit
    have htop := hwf.top
    obtain ⟨e, he⟩ : ∃ e, e = P.empties[x]?.getD 0 := ⟨_, rfl⟩
    rw [List.getD_eq_getElem?_getD, ← he] at hel
    have hlast : ([] ++ [x] : List Nat).getLastD 0 = x := rfl
    obtain ⟨o', ho'⟩ : ∃ o', o' = P.writeAt D b e := ⟨_, rfl⟩
    have hoo : P.writeAt D b (P.empties.getD (([] ++ [x] : List Nat).getLastD 0) 0) = o' := by rw [hlast, List.getD_eq_getElem?_getD, ← he, ho']
    unfold Pgr.writeAt at ho'
    have hsl := seal_length b hbl
    have KS : ∀ w', Mod (fun _ => False) W w' → Calls Try.prog 106 #[.slice a b.length cap] w' fun e w'' => ∃ av cv, e = .returned (.slice av 256 cv) ∧ BytesAt w'' av (seal_ b) ∧ Mod (fun _ => False) W w'' := fun w' hm =>
      (sealed_any a b b.length cap rfl hbl (hI.by_.mod hm (fun _ _ _ => id)) w'.heap.size (Nat.le_refl _)).mono fun e w'' ⟨v, h1, h2, h3, _⟩ => by
        obtain ⟨av, cv, rfl, -, -, hbv⟩ := h2.shape
        rw [hsl] at h1
        exact ⟨av, cv, h1, hbv, hm.trans' h3⟩
    have KW : ∀ w' av cv, Mod (fun _ => False) W w' → BytesAt w' av (seal_ b) → Calls Try.prog 40 #[.pointer (some ⟨p, 0, none⟩), .int .i64 ((P.frm : Int) + 2 + (e : Int)), .slice av 256 cv] w' fun r w'' => r = .returned (.int .i64 (D.why ((P.frm + 2 + e : Nat) : Int) (seal_ b))) ∧ Mod F w' w'' ∧ ∃ F', DiskAt w'' B2 p (D.write ((P.frm + 2 + e : Nat) : Int) (seal_ b)) F' ∧ ∀ k, F' k → F k ∨ w'.heap.size ≤ k := fun w' av cv hm hbv => by
      have := (hI.dk.mod hm (fun _ _ => id)).write hlim ((P.frm + 2 + e : Nat) : Int) av (seal_ b) 256 cv hsl hbv (by rw [hsl]; decide)
      rw [show (P.frm : Int) + 2 + (e : Int) = ((P.frm + 2 + e : Nat) : Int) by omega]
      exact this
    have CS : ∀ (G : Nat → Prop) w', Mod G W w' → ¬ G q → ¬ G w.heap.size → ¬ G (w.heap.size + 1) → w'.cell? ⟨w.heap.size, 0, none⟩ = some (.pointer (some ⟨q, 0, none⟩)) ∧ w'.cell? ⟨q, 0, none⟩ = some (.pointer (some ⟨p, 0, none⟩)) ∧ w'.cell? ⟨q, 1, none⟩ = some (.int .i64 (P.frm : Int)) ∧ w'.cell? ⟨w.heap.size + 1, 0, none⟩ = some (.slice a b.length cap) := fun G w' hm h1 h2 h3 =>
      ⟨hm.cell' x0 h2, hm.cell' y0 h1, hm.cell' y1 h1, hm.cell' x1 h3⟩
    have hcells := hI.dk.cells
    have w1 : IntKind.i64.wrap ((P.frm : Int) + 2) = (P.frm : Int) + 2 := IntWalk.i64_in _ (by omega)
    have w2 : IntKind.i64.wrap ((P.frm : Int) + 2 + (e : Int)) = (P.frm : Int) + 2 + (e : Int) := IntWalk.i64_in _ (by omega)
    have HII := Lib.hid hI
    have HO' := Lib.hid ho'
    have HOO := Lib.hid hoo
    have KSh := Lib.hid KS
    have KWh := Lib.hid KW
    have HCE := Lib.hid hcells
    clear KS KW hI ho' hoo hcells hsl hlast hsq HI0
    generalize D.write ((P.frm + 2 + e : Nat) : Int) (seal_ b) = D' at *
    generalize D.why ((P.frm + 2 + e : Nat) : Int) (seal_ b) = why at *
    subst he
    have mdr : Mod (fun _ => False) W W.drew := Mod.drew _ _
    gi_upto_region 9 with fail
    refine wpIn_region_round (fun w' => w'.cell? ⟨w.heap.size, 0, none⟩ = some (.pointer (some ⟨q, 0, none⟩)) ∧ w'.cell? ⟨q, 0, none⟩ = some (.pointer (some ⟨p, 0, none⟩)) ∧ w'.cell? ⟨q, 1, none⟩ = some (.int .i64 (P.frm : Int)) ∧ w'.cell? ⟨w.heap.size + 1, 0, none⟩ = some (.slice a b.length cap)) (by kernel_rfl) (by kernel_rfl) (fun _ _ h => h) (CS _ _ mdr id id id) (fun hHeld => ?_)
    refine wpAnyH_take (i := 0) (oi := { dst := some 23, op := Op.load 93 (Operand.tmp 2), type := 93, pos := "pager.go:203", after := #[], guard := none }) (v := ?_) rfl (by kernel_rfl) (by kernel_rfl) (by kernel_rfl) (fun _ _ _ h => h) (Or.inl ⟨by rfl, ?_⟩) (by assumption) ?_
    rotate_left
    · (intro w hSw; (try dsimp only at hSw); go_simp; try with_reducible rfl)
    simp only [Act.put, List.setIfInBounds_toArray, List.set_cons_zero, List.set_cons_succ]
    refine wpAnyH_take (i := 1) (oi := { dst := some 24, op := Op.nilCheck (Operand.tmp 23), type := 0, pos := "pager.go:203", after := #[{ on := 0, ground := Ground.data }], guard := none }) (v := ?_) rfl (by kernel_rfl) (by kernel_rfl) (by kernel_rfl) (fun _ _ _ h => h) (Or.inl ⟨by rfl, ?_⟩) (by assumption) ?_
    rotate_left
    · (intro w hSw; (try dsimp only at hSw); go_simp; try with_reducible rfl)
    simp only [Act.put, List.setIfInBounds_toArray, List.set_cons_zero, List.set_cons_succ]
    refine wpAnyH_take (i := 2) (oi := { dst := some 25, op := Op.fieldAddr 153 (Operand.tmp 24) 0, type := 0, pos := "pager.go:203", after := #[{ on := 1, ground := Ground.data }], guard := none }) (v := ?_) rfl (by kernel_rfl) (by kernel_rfl) (by kernel_rfl) (fun _ _ _ h => h) (Or.inl ⟨by rfl, ?_⟩) (by assumption) ?_
    rotate_left
    · (intro w hSw; (try dsimp only at hSw); go_simp; try with_reducible rfl)
    simp only [Act.put, List.setIfInBounds_toArray, List.set_cons_zero, List.set_cons_succ]
    refine wpAnyH_take (i := 3) (oi := { dst := some 26, op := Op.load 40 (Operand.tmp 25), type := 40, pos := "pager.go:203", after := #[{ on := 2, ground := Ground.data }], guard := none }) (v := ?_) rfl (by kernel_rfl) (by kernel_rfl) (by kernel_rfl) (fun _ _ _ h => h) (Or.inl ⟨by rfl, ?_⟩) (by assumption) ?_
    rotate_left
    · (intro w hSw; (try dsimp only at hSw); go_simp; try with_reducible rfl)
    simp only [Act.put, List.setIfInBounds_toArray, List.set_cons_zero, List.set_cons_succ]
    refine wpAnyH_take (i := 4) (oi := { dst := some 27, op := Op.load 93 (Operand.tmp 2), type := 93, pos := "pager.go:203", after := #[], guard := none }) (v := ?_) rfl (by kernel_rfl) (by kernel_rfl) (by kernel_rfl) (fun _ _ _ h => h) (Or.inl ⟨by rfl, ?_⟩) (by assumption) ?_
    rotate_left
    · (intro w hSw; (try dsimp only at hSw); go_simp; try with_reducible rfl)
    simp only [Act.put, List.setIfInBounds_toArray, List.set_cons_zero, List.set_cons_succ]
    refine wpAnyH_take (i := 5) (oi := { dst := some 28, op := Op.nilCheck (Operand.tmp 27), type := 0, pos := "pager.go:203", after := #[{ on := 4, ground := Ground.data }], guard := none }) (v := ?_) rfl (by kernel_rfl) (by kernel_rfl) (by kernel_rfl) (fun _ _ _ h => h) (Or.inl ⟨by rfl, ?_⟩) (by assumption) ?_
    rotate_left
    · (intro w hSw; (try dsimp only at hSw); go_simp; try with_reducible rfl)
    simp only [Act.put, List.setIfInBounds_toArray, List.set_cons_zero, List.set_cons_succ]
    refine wpAnyH_take (i := 6) (oi := { dst := some 29, op := Op.fieldAddr 153 (Operand.tmp 28) 1, type := 0, pos := "pager.go:203", after := #[{ on := 5, ground := Ground.data }], guard := none }) (v := ?_) rfl (by kernel_rfl) (by kernel_rfl) (by kernel_rfl) (fun _ _ _ h => h) (Or.inl ⟨by rfl, ?_⟩) (by assumption) ?_
    rotate_left
    · (intro w hSw; (try dsimp only at hSw); go_simp; try with_reducible rfl)
    simp only [Act.put, List.setIfInBounds_toArray, List.set_cons_zero, List.set_cons_succ]
    refine wpAnyH_take (i := 7) (oi := { dst := some 30, op := Op.load 3 (Operand.tmp 29), type := 3, pos := "pager.go:203", after := #[{ on := 6, ground := Ground.data }], guard := none }) (v := ?_) rfl (by kernel_rfl) (by kernel_rfl) (by kernel_rfl) (fun _ _ _ h => h) (Or.inl ⟨by rfl, ?_⟩) (by assumption) ?_
    rotate_left
    · (intro w hSw; (try dsimp only at hSw); go_simp; try with_reducible rfl)
    simp only [Act.put, List.setIfInBounds_toArray, List.set_cons_zero, List.set_cons_succ]
    refine wpAnyH_take (i := 8) (oi := { dst := some 31, op := Op.binOp BinOp.add 3 (Operand.tmp 30) (Operand.const (Value.int IntKind.i64 2)) 3, type := 3, pos := "pager.go:203", after := #[{ on := 7, ground := Ground.data }], guard := none }) (v := ?_) rfl (by kernel_rfl) (by kernel_rfl) (by kernel_rfl) (fun _ _ _ h => h) (Or.inl ⟨by rfl, ?_⟩) (by assumption) ?_
    rotate_left
    · (intro w hSw; (try dsimp only at hSw); go_simp; try with_reducible rfl)
    simp only [Act.put, List.setIfInBounds_toArray, List.set_cons_zero, List.set_cons_succ]
    refine wpAnyH_take (i := 9) (oi := { dst := some 32, op := Op.move (Operand.tmp 6), type := 3, pos := "pager.go:203", after := #[], guard := none }) (v := ?_) rfl (by kernel_rfl) (by kernel_rfl) (by kernel_rfl) (fun _ _ _ h => h) (Or.inl ⟨by rfl, ?_⟩) (by assumption) ?_
    rotate_left
    · (intro w hSw; (try dsimp only at hSw); go_simp; try with_reducible rfl)
    simp only [Act.put, List.setIfInBounds_toArray, List.set_cons_zero, List.set_cons_succ]
    refine wpAnyH_take (i := 10) (oi := { dst := some 33, op := Op.binOp BinOp.add 3 (Operand.tmp 31) (Operand.tmp 32) 3, type := 3, pos := "pager.go:203", after := #[{ on := 8, ground := Ground.data }, { on := 9, ground := Ground.data }], guard := none }) (v := ?_) rfl (by kernel_rfl) (by kernel_rfl) (by kernel_rfl) (fun _ _ _ h => h) (Or.inl ⟨by rfl, ?_⟩) (by assumption) ?_
    rotate_left
    · (intro w hSw; (try dsimp only at hSw); go_simp; try with_reducible rfl)
    simp only [Act.put, List.setIfInBounds_toArray, List.set_cons_zero, List.set_cons_succ]
    refine wpAnyH_take (i := 11) (oi := { dst := some 34, op := Op.load 22 (Operand.tmp 3), type := 22, pos := "pager.go:203", after := #[], guard := none }) (v := ?_) rfl (by kernel_rfl) (by kernel_rfl) (by kernel_rfl) (fun _ _ _ h => h) (Or.inl ⟨by rfl, ?_⟩) (by assumption) ?_
    rotate_left
    · (intro w hSw; (try dsimp only at hSw); go_simp; try with_reducible rfl)
    simp only [Act.put, List.setIfInBounds_toArray, List.set_cons_zero, List.set_cons_succ]
    refine wpAnyH_ready (rs := [12]) (by kernel_rfl) (by simp) ?_
    refine AllReadyH.cons (o := { dst := some 35, op := Op.call { callee := Callee.value (Operand.func 106), args := #[Operand.tmp 34], argTypes := #[22] }, type := 22, pos := "pager.go:203", after := #[{ on := 11, ground := Ground.data }], guard := none }) rfl (fun K hK => ?_) AllReadyH.nil
    go_simp
    refine (KSh.out _ mdr).mono ?_
    rintro r wa ⟨av, cv, rfl, hbv, ma⟩
    try simp only []
    refine hK.out _ _ (CS _ _ ma id id id) (fun _ => ?_)
    clear hK K
    try simp only [Act.put, List.setIfInBounds_toArray, List.set_cons_zero, List.set_cons_succ]
    refine wpAnyH_ready (rs := [13]) (by kernel_rfl) (by simp) ?_
    refine AllReadyH.cons (o := { dst := some 36, op := Op.call { callee := Callee.value (Operand.func 40), args := #[Operand.tmp 26, Operand.tmp 33, Operand.tmp 35], argTypes := #[40, 3, 22] }, type := 32, pos := "pager.go:203", after := #[{ on := 3, ground := Ground.data }, { on := 10, ground := Ground.data }, { on := 12, ground := Ground.data }, { on := 12, ground := Ground.chain }], guard := none }) rfl (fun K hK => ?_) AllReadyH.nil
    go_simp
    refine (KWh.out _ av cv ma hbv).mono ?_
    rintro r wd ⟨rfl, mwd, hdd'⟩
    have md : Mod F W wd := (ma.mono (fun _ _ e => e.elim)).trans' mwd
    try simp only []
    refine hK.out _ _ (CS _ _ md hqF (fun h => by have := hFw _ h; omega) (fun h => by have := hFw _ h; omega)) (fun _ => ?_)
    clear hK K
    try simp only [Act.put, List.setIfInBounds_toArray, List.set_cons_zero, List.set_cons_succ]
    refine wpAnyH_take (i := 14) (oi := { dst := some 7, op := Op.assign (Operand.tmp 36), type := 32, pos := "pager.go:203", after := #[{ on := 13, ground := Ground.data }, { on := 13, ground := Ground.chain }, { on := 0, ground := Ground.phase }, { on := 1, ground := Ground.phase }, { on := 2, ground := Ground.phase }, { on := 3, ground := Ground.phase }, { on := 4, ground := Ground.phase }, { on := 5, ground := Ground.phase }, { on := 6, ground := Ground.phase }, { on := 7, ground := Ground.phase }, { on := 8, ground := Ground.phase }, { on := 9, ground := Ground.phase }, { on := 10, ground := Ground.phase }, { on := 11, ground := Ground.phase }, { on := 12, ground := Ground.phase }, { on := 13, ground := Ground.phase }], guard := none }) (v := ?_) rfl (by kernel_rfl) (by kernel_rfl) (by kernel_rfl) (fun _ _ _ h => h) (Or.inl ⟨by rfl, ?_⟩) (by assumption) ?_
    rotate_left
    · (intro w hSw; (try dsimp only at hSw); go_simp; try with_reducible rfl)
    simp only [Act.put, List.setIfInBounds_toArray, List.set_cons_zero, List.set_cons_succ]
    refine wpAnyH_done (by kernel_rfl) ?_ _
    have hpgd := HII.out.pg.mod md (fun k hk e => by
      rcases hk with rfl | hk
      · exact hqF e
      · exact hmF k hk.symm e)
    have b2d : Boxed wd (w.heap.size + 2) 3 (.int .i64 0) := md.obj HII.out.b2 (fun h => by have := hFw _ h; omega)
    have b3d : Boxed wd (w.heap.size + 3) 32 (.int .i64 0) := md.obj HII.out.b3 (fun h => by have := hFw _ h; omega)
    have b0b : Boxed wd w.heap.size 93 (.pointer (some ⟨q, 0, none⟩)) := md.obj HII.out.b0 (fun h => by have := hFw _ h; omega)
    have b0d := b0b.cell
    have c5 := hpgd.tail.2.2.2.2
    have f5 := thaw_of (i := 4103) hpgd.at_
    have x2 := b2d.cell
    have x3 := b3d.cell
    have g2 := b2d.frozen
    have g3 := b3d.frozen
    have hmW := HII.out.m
    have hma := ma.size
    generalize P.empties[x]?.getD 0 = e at *
    have he4 : e < 4096 := by omega
    have hce := hpgd.is_cell e he4
    have f6 := thaw_of (i := 3 + e) hpgd.at_
    have hei : (0 : Int) ≤ (e : Int) := by omega
    have hej : (e : Int) < 4096 := by omega
    generalize P.is_[e]'_ = ce at hce
    have HCE2 := HCE
    have HATW := Lib.hid HII.out.pg.at_
    have HB2W := Lib.hid HII.out.b2
    have HB3W := Lib.hid HII.out.b3
    have HQF' : Hid (∀ F', (DiskAt wd B2 p D' F' ∧ ∀ k, F' k → F k ∨ wa.heap.size ≤ k) → ∀ k, F' k → k = q → False) := Lib.hid (fun F' h k hk e => by
      subst e
      rcases h.2 k hk with h | h
      · exact hqF h
      · omega)
    have HPG := Lib.hid hpgd
    have HB2 := Lib.hid b2d
    have HB3 := Lib.hid b3d
    have HMW := Lib.hid hmW
    have HMD := Lib.hid md
    clear hpgd b2d b3d hmW md mwd ma hbv KSh KWh HII CS
    by_cases h0 : why = 0
    · subst h0
      have ho := HO'.out
      rw [if_pos rfl] at ho
      have hq5 : Mod (fun k => k = q) wd (wd.setCell ⟨q, 3 + e, none⟩ (byteV 2)) := Mod.setCell _ _ _ rfl
      have hfin := wx_fin (x := (e : Int)) (y := 0) hqw hFw hmw hWs HMW.out ((HMD.out.mono (fun _ _ e => .inr e)).trans' (hq5.mono (fun _ _ e => .inl e))) (fun k hk => hk.elim (fun e => by subst e; exact ⟨_, _, _, HATW.out⟩) (HCE.out k)) (HPG.out.setIs e he4 2) (hdd'.imp fun F' h => ⟨h.1.mod hq5 (fun k hk e => HQF'.out F' h k hk e), fun k hk => (h.2 k hk).imp id (fun e => Nat.le_trans hma e)⟩) HB2W.out HB3W.out
      rw [← ho] at hfin
      have HFIN := Lib.hid hfin
      clear hfin hq5
      gi_wp2
      refine ⟨HFIN.out.1, ⟨rfl, rfl⟩, ?_⟩
      have hx := HFIN.out.2
      rw [← HOO.out] at hx
      exact hx
    · have ho := HO'.out
      rw [if_neg h0] at ho
      have hq5 : Mod (fun k => k = q) wd (wd.setCell ⟨q, 4103, none⟩ (.bool true)) := Mod.setCell _ _ _ rfl
      have hfin := wx_fin (x := 0) (y := why) hqw hFw hmw hWs HMW.out ((HMD.out.mono (fun _ _ e => .inr e)).trans' (hq5.mono (fun _ _ e => .inl e))) (fun k hk => hk.elim (fun e => by subst e; exact ⟨_, _, _, HATW.out⟩) (HCE.out k)) (HPG.out.setDead true) (hdd'.imp fun F' h => ⟨h.1.mod hq5 (fun k hk e => HQF'.out F' h k hk e), fun k hk => (h.2 k hk).imp id (fun e => Nat.le_trans hma e)⟩) HB2W.out HB3W.out
      rw [← ho] at hfin
      have HFIN := Lib.hid hfin
      clear hfin hq5
      gi_wp2
      refine ⟨HFIN.out.1, ⟨rfl, rfl⟩, ?_⟩
      have hx := HFIN.out.2
      rw [← HOO.out] at hx
      exact hx


set_option maxRecDepth 100000 in
theorem pwrite_nil {w : World} (a : Option Addr) (n cap : Nat) : Calls Try.prog 66 #[.pointer none, .slice a n cap] w fun e w' => e = .returned (.tuple #[.int .i64 0, .int .i64 2]) ∧ Mod (fun _ => False) w w' := by
  go_enter Try.func66, Try.ntmps66
  go_wp2
  have hk : ∀ (A1 A2 A3 A4 : Obj), ((((w.alloc A1).alloc A2).alloc A3).alloc A4).heap[w.heap.size + 1 + 1]? = some A3 ∧ ((((w.alloc A1).alloc A2).alloc A3).alloc A4).heap[w.heap.size + 1 + 1 + 1]? = some A4 := fun A1 A2 A3 A4 => by
    refine ⟨?_, ?_⟩
    · rw [heap_alloc_old _ _ (by simp)]
      have := heap_alloc_new ((w.alloc A1).alloc A2) A3
      simpa using this
    · have := heap_alloc_new (((w.alloc A1).alloc A2).alloc A3) A4
      simpa using this
  obtain ⟨k2, k3⟩ := hk (.cells #[.pointer none] 93) (.cells #[.slice a n cap] 22) (.cells #[.int .i64 0] 3) (.cells #[.int .i64 2] 32)
  exact bodyPost_ret (results_cell2 rfl _ _ rfl rfl (cell_of_row _ _ 0 _ 3 (0, 0) k2) (cell_of_row _ _ 0 _ 32 (0, 0) k3)) rfl ⟨rfl, (((Mod.alloc _ _ _).trans' (Mod.alloc _ _ _)).trans' (Mod.alloc _ _ _)).trans' (Mod.alloc _ _ _)⟩

set_option maxHeartbeats 1000000 in
set_option maxRecDepth 100000 in
theorem pwrite_no {w : World} {B B2 q p : Nat} {vm : Value} {P : Pgr} {D : Dsk} {F : Nat → Prop} (hp : PgV w B q p vm P) (hd : DiskAt w B2 p D F)
    (a : Option Addr) (b : List UInt8) (n cap : Nat) (hn : b.length = n) (hno : P.dead = true ∨ 252 < b.length) :
    Calls Try.prog 66 #[.pointer (some ⟨q, 0, none⟩), .slice a n cap] w fun e w' => WSaid w B B2 q p vm F (if P.dead = true then (0, 21, P, D) else (0, 3, P, D)) e w' := by
  subst hn
  have hk : ∀ (A1 A2 A3 A4 : Obj), ((((w.alloc A1).alloc A2).alloc A3).alloc A4).heap[w.heap.size + 1 + 1]? = some A3 ∧ ((((w.alloc A1).alloc A2).alloc A3).alloc A4).heap[w.heap.size + 1 + 1 + 1]? = some A4 := fun A1 A2 A3 A4 => by
    refine ⟨?_, ?_⟩
    · rw [heap_alloc_old _ _ (by simp)]
      have := heap_alloc_new ((w.alloc A1).alloc A2) A3
      simpa using this
    · have := heap_alloc_new (((w.alloc A1).alloc A2).alloc A3) A4
      simpa using this
  have hm : ∀ (A1 A2 A3 A4 : Obj), Mod (fun _ => False) w ((((w.alloc A1).alloc A2).alloc A3).alloc A4) := fun A1 A2 A3 A4 => (((Mod.alloc _ _ _).trans' (Mod.alloc _ _ _)).trans' (Mod.alloc _ _ _)).trans' (Mod.alloc _ _ _)
  have c5 := (hm (.cells #[.pointer (some ⟨q, 0, none⟩)] 93) (.cells #[.slice a b.length cap] 22) (.cells #[.int .i64 0] 3) (.cells #[.int .i64 0] 32)).cell' hp.tail.2.2.2.2 id
  cases hdd : P.dead with
  | true =>
    rw [hdd] at c5
    rw [if_pos rfl]
    go_enter Try.func66, Try.ntmps66
    go_wp2
    obtain ⟨k2, k3⟩ := hk (.cells #[.pointer (some ⟨q, 0, none⟩)] 93) (.cells #[.slice a b.length cap] 22) (.cells #[.int .i64 0] 3) (.cells #[.int .i64 21] 32)
    have hm2 := hm (.cells #[.pointer (some ⟨q, 0, none⟩)] 93) (.cells #[.slice a b.length cap] 22) (.cells #[.int .i64 0] 3) (.cells #[.int .i64 21] 32)
    exact bodyPost_ret (results_cell2 rfl _ _ rfl rfl (cell_of_row _ _ 0 _ 3 (0, 0) k2) (cell_of_row _ _ 0 _ 32 (0, 0) k3)) rfl ⟨rfl, hp.mod hm2 (fun _ _ => id), ⟨F, hd.mod hm2 (fun _ _ => id), fun k hk => .inl hk⟩, hm2.mono (fun _ _ e => e.elim)⟩
  | false =>
    rw [hdd] at c5
    have hbl : 252 < (b.length : Int) := by exact (hno.elim (fun h => by rw [hdd] at h; cases h) (fun h => by omega))
    rw [if_neg (by decide)]
    go_enter Try.func66, Try.ntmps66
    go_wp2
    obtain ⟨k2, k3⟩ := hk (.cells #[.pointer (some ⟨q, 0, none⟩)] 93) (.cells #[.slice a b.length cap] 22) (.cells #[.int .i64 0] 3) (.cells #[.int .i64 3] 32)
    have hm2 := hm (.cells #[.pointer (some ⟨q, 0, none⟩)] 93) (.cells #[.slice a b.length cap] 22) (.cells #[.int .i64 0] 3) (.cells #[.int .i64 3] 32)
    exact bodyPost_ret (results_cell2 rfl _ _ rfl rfl (cell_of_row _ _ 0 _ 3 (0, 0) k2) (cell_of_row _ _ 0 _ 32 (0, 0) k3)) rfl ⟨rfl, hp.mod hm2 (fun _ _ => id), ⟨F, hd.mod hm2 (fun _ _ => id), fun k hk => .inl hk⟩, hm2.mono (fun _ _ e => e.elim)⟩
end Go.Proofs.Ytdinnkacilgmmaa
