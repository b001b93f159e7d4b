/- Lent, Kept, Spoil, and law 03's do. -/
import Derived.Test.YtdinnkacilgmmaaDisk7
namespace Go.Proofs.Ytdinnkacilgmmaa
open Go.RowKit

/-- bytes with a mark behind them -/
def LentB (w : World) (B g cap : Nat) (l : List UInt8) : Prop := OwnB w B (.slice (some ⟨g, 0, none⟩) (l.length + 1) cap) (l ++ [0xa7])

set_option maxRecDepth 100000 in
theorem lent_any (a : Option Addr) (l : List UInt8) (cap : Nat) (w : World) (B : Nat) (hB : B ≤ w.heap.size) (hm : l.length ≤ 140737488351232) (ha : a = none → cap = 0) (hb : BytesAt w a l) :
    Calls Try.prog 46 #[.slice a l.length cap] w fun e w' => ∃ g c, e = .returned (.slice (some ⟨g, 0, none⟩) l.length c) ∧ LentB w' B g c l ∧ Mod (fun _ => False) w w' ∧ w.heap.size ≤ g := by
  go_enter Try.func46, Try.ntmps46
  go_wp2_with (first
    | (at_builtin; refine appB rfl _ _ rfl w.heap.size (.slice none 0 0) [] rfl (OwnB.nil _ _) _ _ _ l rfl rfl ha hb (by simp; omega) (Nat.le_refl _) ?_; intro v1 w1 hown1 hmod1 _; rw [List.nil_append] at hown1)
    | (at_builtin; refine appB rfl _ _ rfl w.heap.size v1 l rfl (hown1.mod (Mod.alloc (fun _ => False) _ _) (fun _ _ => id)) _ _ _ [167] rfl rfl (fun e => by cases e) (by exact bytesAt_new' rfl rfl) (by simp; omega) (by have := hmod1.size; simp; omega) ?_; intro v2 w2 hown2 hmod2 _))
  obtain ⟨g, c, cur, rfl, hg, -, hle, -, -, -⟩ := hown2.row (by simp)
  have hm12 : Mod (fun _ => False) w w2 := by
    have b1 := hmod1.below (B := w.heap.size) (by intro k hk; simp [Value.ownBlock] at hk) (Nat.le_refl _)
    have b2 := hmod2.below (B := w.heap.size) (fun j hj => (World.ownsRow.lt hown1 j hj.symm).1) (by have := hmod1.size; simp; omega)
    exact Mod.fresh ((b1.alloc hmod1.size _).trans b2) _
  rw [show (l ++ [(167 : UInt8)]).length = l.length + 1 by simp] at hown2 hle ⊢
  have hle' : (l.length : Int) ≤ (c : Int) := by omega
  clear hown1 hmod1 hmod2
  go_simp
  go_wp2
  go_ret
  exact ⟨g, c, rfl, hown2.weaken hB, hm12, hg⟩

theorem LentB.bytes {w : World} {B g cap : Nat} {l : List UInt8} (h : LentB w B g cap l) : BytesAt w (some ⟨g, 0, none⟩) l ∧ l.length + 1 ≤ cap ∧ w.cell? ⟨g, l.length, none⟩ = some (.int .u8 167) := by
  obtain ⟨hl, hb⟩ := OwnB.bytes h
  have hs := hb.sub 0 l.length
  rw [List.drop_zero, List.take_left] at hs
  have hc := (OwnB.cellAt h l.length (by simp)).1
  refine ⟨hs, ?_, by rw [hc]; simp⟩
  obtain ⟨a, c, e, h1, -, -⟩ := OwnB.shape h
  injection e with e1 e2 e3
  subst e3
  simpa using h1

theorem LentB.mod {F : Nat → Prop} {w w' : World} {B g cap : Nat} {l : List UInt8} (h : LentB w B g cap l) (hm : Mod F w w') (hF : ¬ F g) : LentB w' B g cap l :=
  OwnB.mod h hm (fun k hk => by simp [Value.ownBlock] at hk; rw [← hk]; exact hF)

theorem fold_push (l : List UInt8) : ∀ s : ByteArray, (l.map fun c => ((c.toNat : Nat) : Int)).foldl (fun r n => r.push (UInt8.ofNat n.toNat)) s = ⟨(s.data.toList ++ l).toArray⟩ := by
  induction l with
  | nil => intro s; simp
  | cons c r ih =>
    intro s
    simp only [List.map_cons, List.foldl_cons, ih]
    simp

/-- string(b) -/
theorem run_str {w : World} {a : Option Addr} {l : List UInt8} (h : BytesAt w a l) (n cap : Nat) (hn : l.length = n) : (convert 22 9 (.slice a n cap)).run Try.prog w = .ok (.string ⟨l.toArray⟩) w := by
  subst hn
  rw [run_convert_bytes_string (P := Try.prog) w 22 9 5 a _ cap Try.underlying22 Try.underlying5 Try.underlying9]
  by_cases hl : l = []
  · subst hl
    cases a with
    | none => rfl
    | some x => rfl
  · obtain ⟨b, off, rfl, hc⟩ := h hl
    have h1 := run_loadCells_list (P := Try.prog) w ⟨b, off, none⟩ (l.map byteV) (fun j v hv => by
      rw [Addr.add_mid]
      rw [List.getElem?_map] at hv
      cases hj : l[j]? with
      | none => rw [hj] at hv; simp at hv
      | some c =>
        rw [hj] at hv
        obtain ⟨hlt, rfl⟩ := List.getElem?_eq_some_iff.1 hj
        rw [hc j hlt]
        simpa using hv)
    rw [List.length_map] at h1
    rw [run_bytesToString (P := Try.prog) w ⟨b, off, none⟩ l.length cap (l.map fun c => ((c.toNat : Nat) : Int)) (by rw [h1]; simp [Function.comp_def])]
    rw [fold_push]
    simp

set_option maxRecDepth 100000 in
theorem kept_any {w : World} {B g c : Nat} (l : List UInt8) (h : LentB w B g c l) (a : Option Addr) (cap : Nat) (hb : BytesAt w a l) (hm : l.length ≤ 140737488351232) (_ha : a = none → cap = 0) :
    Calls Try.prog 48 #[.slice (some ⟨g, 0, none⟩) l.length c, .slice a l.length cap] w fun e w' => e = .returned (.bool true) ∧ w = w' := by
  obtain ⟨h1, h2, h3⟩ := h.bytes
  have h2' : (l.length : Int) + 1 ≤ (c : Int) := by omega
  have s1 := run_str h1 l.length c rfl
  have s2 := run_str hb l.length cap rfl
  go_enter Try.func48, Try.ntmps48
  go_wp2
  go_ret
  exact ⟨rfl, rfl⟩

theorem OwnB.front {w : World} {B g n cap : Nat} {l r : List UInt8} (h : OwnB w B (.slice (some ⟨g, 0, none⟩) n cap) (l ++ r)) : OwnB w B (.slice (some ⟨g, 0, none⟩) l.length cap) l := by
  rcases h.2 with ⟨e, _⟩ | ⟨g', cap', cur, e, h2, h3, h4, h5, h6, h7⟩
  · cases e
  · injection e with e1 e2 e3
    subst e3
    injection e1 with e1
    injection e1 with e1
    subst e1
    refine ⟨by simp, .inr ⟨g, cap, cur, rfl, h2, h3, by simp at h4; omega, h5, h6, ?_⟩⟩
    have := congrArg (List.take (l.length * 1)) h7
    rw [List.take_take, List.map_append, List.take_left' (by simp)] at this
    rw [← this]
    congr 1
    simp

section
variable {w : World} {ops : Array Oper} {rest : List Oper} {o : Oper} {a : Act} {Q : Exit → Act → World → Prop}
/-- append of one byte, and where the new slice lies -/
theorem appB1_at (hgd : o.guard = none) (s x : Operand) (ho : o.op = .call { callee := .builtin .append, args := #[s, x], argTypes := #[22, 22] })
    (B : Nat) (v : Value) (l : List UInt8) (hs : a.eval s = v) (hown : OwnB w B v l)
    (ad : Addr) (c : Nat) (r : UInt8) (hx : a.eval x = .slice (some ad) 1 c) (hr : BytesAt w (some ad) [r])
    (h47 : l.length + 1 ≤ 140737488355328) (hB : B ≤ w.heap.size)
    (h : ∀ v' w', OwnB w' B v' (l ++ [r]) → Mod (fun k => some k = v.ownBlock) w w' → (v'.ownBlock = v.ownBlock ∨ v'.ownBlock = some w.heap.size) → wpList Try.prog ops Q rest (a.put o.dst v') w') :
    wpList Try.prog ops Q (o :: rest) a w := by
  obtain ⟨i, hi, hz, hs1, hb1⟩ := info_parts info5
  obtain ⟨ad', e, hnews⟩ := bytesAt_cells hr (by simp)
  cases e
  refine wpList_append_own_at w hgd s x 22 ho B 5 i _ 1 1 Try.underlying22 hi hz hs1 hb1 rfl (by decide) v l.length (l.map byteV) hs hown ad 1 c ([r].map byteV) hx (by simp) hnews (bytes_oneCell [r])
    (by unfold maxLen; omega) (by omega) hB ?_
  intro v' w' h1 h2 _ h3
  refine h v' w' ?_ (Mod.grown h2) h3
  unfold OwnB
  rw [List.length_append, List.map_append]
  exact h1
end

theorem own_last {w : World} {B n : Nat} {v : Value} {l : List UInt8} {r : UInt8} (h : OwnB w B v (l ++ [r])) (hn : l.length = n) :
    ∃ g c, v = .slice (some ⟨g, 0, none⟩) (n + 1) c ∧ w.cell? ⟨g, n, none⟩ = some (byteV r) ∧ w.frozen? ⟨g, n, none⟩ = false := by
  subst hn
  obtain ⟨g, c, cur, rfl, -, -, -, -, -, -⟩ := h.row (by simp)
  obtain ⟨x0, x1⟩ := h.cellAt l.length (by simp)
  refine ⟨g, c, by simp, ?_, x1⟩
  rw [x0]; simp

set_option maxRecDepth 100000 in
theorem spoil_any {w : World} {B n : Nat} {a : Option Addr} {cap : Nat} {l : List UInt8} (h : OwnB w B (.slice a n cap) l) (hB : B ≤ w.heap.size) (hm : l.length ≤ 140737488351232) :
    Calls Try.prog 49 #[.slice a n cap] w fun e w' => e = .returned (.tuple #[]) ∧ Mod (fun k => some k = (Value.slice a n cap).ownBlock) w w' := by
  obtain ⟨hn, -⟩ := OwnB.bytes h
  subst hn
  go_enter Try.func49, Try.ntmps49
  go_wp2_with fail
  go_loopw [2] (fun v2 wr => ∃ (k : Nat) (l' : List UInt8), k ≤ l.length ∧ v2 = .int .i64 (k : Int) ∧ l'.length = l.length ∧ OwnB wr B (.slice a l.length cap) l' ∧ Mod (fun k => some k = (Value.slice a l.length cap).ownBlock) w wr) (fun v2 _ => l.length - (intOf v2).toNat)
  case atStart => exact ⟨0, l, Nat.zero_le _, rfl, rfl, h, Mod.refl _ _⟩
  case round =>
    obtain ⟨k, l', hk, rfl, hl', ho, hmr⟩ := hrel
    by_cases hlt : k < l.length
    · obtain ⟨g, cap', cur, e, -⟩ := OwnB.row ho (by intro e; rw [e] at hl'; simp at hl'; omega)
      injection e with e1 e2 e3
      subst e1
      obtain ⟨c0, x0, x1⟩ : ∃ c0, wr.cell? ⟨g, k, none⟩ = some (byteV c0) ∧ wr.frozen? ⟨g, k, none⟩ = false := ⟨_, ho.cellAt k (by omega)⟩
      have hlt' : (k : Int) < (l.length : Int) := by omega
      clear e2 e3
      have HL := Lib.hid hl'
      clear hl'
      go_wp2
      go_roundw
      case rel =>
        refine ⟨k + 1, l'.set k 90, by omega, by go_num, by simpa using HL.out, ho.store k 90, hmr.trans (Mod.setCell (F := fun k => some k = (Value.slice (some ⟨g, 0, none⟩) l.length cap).ownBlock) _ _ _ rfl) (fun _ _ e => e)⟩
      case measure => simp [intOf]; omega
    · obtain rfl : k = l.length := by omega
      have HL := Lib.hid hl'
      clear hl'
      go_wp2_with (first
        | (at_builtin; refine appB1_at rfl _ _ rfl B (.slice a l.length cap) l' rfl (by exact ho.mod (Mod.alloc (fun _ => False) _ _) (fun _ _ => id)) _ _ 91 rfl (by exact bytesAt_new' rfl rfl) (by rw [HL.out]; omega) (by have := hmr.size; simp; omega) ?_; intro v3 w3 ho3 hm3 hp3; obtain ⟨g3, c3, rfl, x0, x1⟩ := own_last ho3 HL.out))
      go_end0
      refine ⟨rfl, ?_⟩
      have hma := (hmr.trans (Mod.alloc (fun k => some k = (Value.slice a l.length cap).ownBlock) wr (.cells #[.int .u8 91] 5)) (fun _ _ e => e)).trans hm3 (fun _ _ e => e)
      refine hma.trans (Mod.setCell (F := fun k => k = g3) _ _ _ rfl) ?_
      rintro i hi rfl
      rcases hp3 with e | e
      · exact e
      · exfalso
        simp [Value.ownBlock] at e
        have := hmr.size
        omega

theorem Turned.pre {w W w' : World} {B p : Nat} {F : Nat → Prop} {D' : Dsk} (m : Mod (fun _ => False) w W) (ht : Turned W B p F D' w') : Turned w B p F D' w' := by
  obtain ⟨m1, F', h, hF⟩ := ht
  refine ⟨(m.mono (fun _ _ e => e.elim)).trans m1 (fun _ _ e => e), F', h, fun k hk => ?_⟩
  rcases hF k hk with e | e
  · exact .inl e
  · exact .inr (Nat.le_trans m.size e)
theorem DiskAt.still {w w' : World} {B p : Nat} {F : Nat → Prop} {D : Dsk} (h : DiskAt w B p D F) (m : Mod (fun _ => False) w w') : Turned w B p F D w' :=
  ⟨m.mono (fun _ _ e => e.elim), F, h.mod m (fun _ _ => id), fun _ hk => .inl hk⟩

/-- an operation of a script, as it is handed over -/
structure OpV where
  kind : Int
  n : Int
  b : List UInt8
  l : List Int

/-- what a script's operation does to a disk -/
def Dsk.doCode (D : Dsk) (o : OpV) : Int :=
  if o.kind = 0 ∨ o.kind = 1 then D.why o.n o.b else if o.kind = 2 then D.whySync else 0
def Dsk.step (D : Dsk) (o : OpV) : Dsk :=
  if o.kind = 0 ∨ o.kind = 1 then D.write o.n o.b else if o.kind = 2 then D.sync else if o.kind = 3 then { D with bad := true }
  else if o.kind = 4 then { D with full := o.n.tmod 2 != 0 } else if o.kind = 5 then D.crash o.l else D

/-- the value of an operation -/
structure OpAt (w : World) (v : Value) (o : OpV) : Prop where
  shape : ∃ (ab : Option Addr) (cb : Nat) (al : Option Addr) (cl : Nat), v = .agg #[.int .i64 o.kind, .int .i64 o.n, .slice ab o.b.length cb, .slice al o.l.length cl] ∧
    BytesAt w ab o.b ∧ (ab = none → cb = 0) ∧ IntsAt w al o.l ∧ o.b.length ≤ 140737488351232 ∧ o.l.length ≤ 140737488351232

set_option maxRecDepth 100000 in
theorem do_any {w : World} {B p : Nat} {D : Dsk} {F : Nat → Prop} (h : DiskAt w B p D F) (hB : B ≤ w.heap.size) (hlim : D.l.length + 1 ≤ 1048576) (o : OpV) (ab : Option Addr) (cb : Nat) (al : Option Addr) (cl : Nat)
    (hb : BytesAt w ab o.b) (hab : ab = none → cb = 0) (hl : IntsAt w al o.l) (hm : o.b.length ≤ 140737488351232) (hml : o.l.length ≤ 140737488351232)
    (hbB : ∀ x, ab = some x → o.b ≠ [] → x.block < B) (hlB : ∀ x, al = some x → o.l ≠ [] → x.block < B) :
    Calls Try.prog 32 #[.pointer (some ⟨p, 0, none⟩), .agg #[.int .i64 o.kind, .int .i64 o.n, .slice ab o.b.length cb, .slice al o.l.length cl]] w fun e w' =>
      e = .returned (.int .i64 (D.doCode o)) ∧ Turned w B p F (D.step o) w' := by
  obtain ⟨kind, n, b, l⟩ := o
  simp only at *
  have hF := h.lt
  have hpF : F p := by obtain ⟨vs, vn, vl, h, rfl⟩ := h; exact foot_p
  obtain ⟨W, hW⟩ : ∃ W, W = w.alloc (.cells #[.int .i64 kind, .int .i64 n, .slice ab b.length cb, .slice al l.length cl] 45) := ⟨_, rfl⟩
  have mW : Mod (fun _ => False) w W := by rw [hW]; exact Mod.alloc _ _ _
  have hWs : W.heap.size = w.heap.size + 1 := by rw [hW]; simp
  have hbox : W.heap[w.heap.size]? = some (.cells #[.int .i64 kind, .int .i64 n, .slice ab b.length cb, .slice al l.length cl] 45 (0, 0)) := by rw [hW]; exact heap_alloc_new w _
  have hdW := h.mod mW (fun _ _ => id)
  by_cases h01 : kind = 0 ∨ kind = 1
  · have e1 : D.doCode ⟨kind, n, b, l⟩ = D.why n b := by simp [Dsk.doCode, h01]
    have e2 : D.step ⟨kind, n, b, l⟩ = D.write n b := by simp [Dsk.step, h01]
    rw [e1, e2]
    have hbW := hb.mod mW (fun _ _ _ => id)
    have lent := lent_any ab b cb W B (by omega) hm hab hbW
    rcases h01 with rfl | rfl
    all_goals
      go_enter Try.func32, Try.ntmps32
      go_wp2_with fail
      rw [← hW]
      refine lent.mono ?_
      rintro e w2 ⟨g, c, rfl, hL2, m2, hg2⟩
      have hbox2 := m2.obj hbox id
      have hd2 := hdW.mod m2 (fun _ _ => id)
      have b1 : w2.cell? ⟨w.heap.size, 1, none⟩ = some (.int .i64 n) := by rw [cell_of_row _ _ 1 _ 45 (0, 0) hbox2]; rfl
      go_wp2_with fail
      refine (hd2.write hlim n (some ⟨g, 0, none⟩) b _ c rfl hL2.bytes.1 (by omega)).mono ?_
      rintro e w3 ⟨rfl, m3, F', hd3, hF'⟩
      have hgF : ¬ F g := fun e => by have := (hF g e).2; omega
      have hxF : ¬ F w.heap.size := fun e => by have := (hF _ e).2; omega
      have hbox3 := m3.obj hbox2 hxF
      have hL3 := hL2.mod m3 hgF
      have hb3 := (hbW.mod m2 (fun _ _ _ => id)).mod m3 (fun x hx hne e => by have := (hF _ e).1; have := hbB x hx hne; omega)
      have b2 : w3.cell? ⟨w.heap.size, 2, none⟩ = some (.slice ab b.length cb) := by rw [cell_of_row _ _ 2 _ 45 (0, 0) hbox3]; rfl
      go_wp2_with fail
      refine (kept_any b hL3 ab cb hb3 hm hab).mono ?_
      rintro e w' ⟨rfl, rfl⟩
      go_wp2_with fail
      have hsz := m2.size
      have hsz3 := m3.size
      refine (spoil_any (OwnB.front hL3) (by omega) hm).mono ?_
      rintro e w4 ⟨rfl, m4⟩
      go_wp2
      go_ret
      have hgs : g < w2.heap.size := (World.ownsRow.lt hL2 g rfl).2
      refine ⟨rfl, ?_, F', hd3.mod m4 ?_, ?_⟩
      · have a1 : Mod F w w3 := ((mW.mono (fun _ _ e => e.elim)).trans m2 (fun _ _ e => e.elim)).trans m3 (fun _ _ e => e)
        refine a1.trans m4 (fun i hi e => ?_)
        simp [Value.ownBlock] at e
        omega
      · intro k hk e
        simp [Value.ownBlock] at e
        subst e
        rcases hF' k hk with e | e
        · exact hgF e
        · omega
      · intro k hk
        rcases hF' k hk with e | e
        · exact .inl e
        · right; omega
  by_cases h2 : kind = 2
  · subst h2
    have e1 : D.doCode ⟨2, n, b, l⟩ = D.whySync := by simp [Dsk.doCode]
    have e2 : D.step ⟨2, n, b, l⟩ = D.sync := by simp [Dsk.step]
    rw [e1, e2]
    go_enter Try.func32, Try.ntmps32
    go_wp2_with fail
    rw [← hW]
    refine hdW.sync.mono ?_
    rintro e w2 ⟨rfl, ht⟩
    go_wp2
    go_ret
    exact ⟨rfl, ht.pre mW⟩
  by_cases h3 : kind = 3
  · subst h3
    have e1 : D.doCode ⟨3, n, b, l⟩ = 0 := by simp [Dsk.doCode]
    have e2 : D.step ⟨3, n, b, l⟩ = { D with bad := true } := by simp [Dsk.step]
    rw [e1, e2]
    go_enter Try.func32, Try.ntmps32
    go_wp2_with fail
    rw [← hW]
    refine hdW.fail.mono ?_
    rintro e w2 ⟨rfl, ht⟩
    go_wp2
    go_ret
    exact ⟨rfl, ht.pre mW⟩
  by_cases h4 : kind = 4
  · subst h4
    have e1 : D.doCode ⟨4, n, b, l⟩ = 0 := by simp [Dsk.doCode]
    have e2 : D.step ⟨4, n, b, l⟩ = { D with full := n.tmod 2 != 0 } := by simp [Dsk.step]
    rw [e1, e2]
    go_enter Try.func32, Try.ntmps32
    go_wp2_with fail
    rw [← hW]
    refine (hdW.fullTo _).mono ?_
    rintro e w2 ⟨rfl, ht⟩
    go_wp2
    go_ret
    refine ⟨rfl, ?_⟩
    exact ht.pre mW
  by_cases h5 : kind = 5
  · subst h5
    have e1 : D.doCode ⟨5, n, b, l⟩ = 0 := by simp [Dsk.doCode]
    have e2 : D.step ⟨5, n, b, l⟩ = D.crash l := by simp [Dsk.step]
    rw [e1, e2]
    go_enter Try.func32, Try.ntmps32
    go_wp2_with fail
    rw [← hW]
    refine (hdW.crash al l _ cl rfl (hl.mod mW (fun _ _ _ => id)) (fun x hx hne e => by have := (hF _ e).1; have := hlB x hx hne; omega) (by omega)).mono ?_
    rintro e w2 ⟨rfl, ht⟩
    go_wp2
    go_ret
    exact ⟨rfl, ht.pre mW⟩
  · have h0 : kind ≠ 0 := fun e => h01 (.inl e)
    have h1 : kind ≠ 1 := fun e => h01 (.inr e)
    have e1 : D.doCode ⟨kind, n, b, l⟩ = 0 := by simp [Dsk.doCode, h0, h1, h2]
    have e2 : D.step ⟨kind, n, b, l⟩ = D := by simp [Dsk.step, h0, h1, h2, h3, h4, h5]
    rw [e1, e2]
    go_enter Try.func32, Try.ntmps32
    go_wp2
    rw [← hW]
    go_ret
    exact ⟨rfl, h.still mW⟩
end Go.Proofs.Ytdinnkacilgmmaa
