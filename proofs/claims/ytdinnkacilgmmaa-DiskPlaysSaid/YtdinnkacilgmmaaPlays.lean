/- DiskPlays: the walk. -/
import Derived.Test.YtdinnkacilgmmaaAlike
namespace Go.Proofs.Ytdinnkacilgmmaa
open Go.RowKit

/-- nothing -/
def EmpT (B : Nat) : Thg B := ⟨fun _ F => F = fun _ => False, fun {w F} h k hk => by subst h; exact hk.elim, fun {G w w' F} h _ _ => h⟩
/-- bytes with a mark behind them, of which some were lent -/
def LentT (B g c : Nat) (l : List UInt8) : Thg B := BytesT B (.slice (some ⟨g, 0, none⟩) (l.length + 1) c) (l ++ [0xa7])

theorem new_any {w : World} (n : Int) : Calls Try.prog 31 #[.int .i64 n] w fun e w' => ∃ (o : Option Addr) (c : Int), e = .returned (.tuple #[.pointer o, .int .i64 c]) ∧ ((c = 0 ∧ ∃ p, o = some ⟨p, 0, none⟩) ∨ (c = 1 ∧ o = none)) ∧ (c = if n < 1 ∨ 4096 < n then 1 else 0) ∧ Mod (fun _ => False) w w' := by
  by_cases h : n < 1 ∨ 4096 < n
  · refine (new_no n h).mono ?_
    rintro e w' ⟨rfl, rfl⟩
    exact ⟨none, 1, rfl, .inr ⟨rfl, rfl⟩, by rw [if_pos h], Mod.refl _ _⟩
  · obtain ⟨k, rfl⟩ : ∃ k : Nat, n = (k : Int) := ⟨n.toNat, by omega⟩
    refine (new_ok (w := w) (B := w.heap.size) (Nat.le_refl _) k (by omega) (by omega)).mono ?_
    rintro e w' ⟨v, rfl, p, F, rfl, -, hm, -⟩
    exact ⟨_, 0, rfl, .inl ⟨rfl, p, rfl⟩, by rw [if_neg h], hm⟩
theorem rnew_any {w : World} (n : Int) : Calls Try.prog 45 #[.int .i64 n] w fun e w' => ∃ (o : Option Addr) (c : Int), e = .returned (.tuple #[.pointer o, .int .i64 c]) ∧ (c = if n < 1 ∨ 4096 < n then 1 else 0) ∧ Mod (fun _ => False) w w' := by
  by_cases h : n < 1 ∨ 4096 < n
  · refine (rnew_no n h).mono ?_
    rintro e w' ⟨rfl, rfl⟩
    exact ⟨none, 1, rfl, by rw [if_pos h], Mod.refl _ _⟩
  · obtain ⟨k, rfl⟩ : ∃ k : Nat, n = (k : Int) := ⟨n.toNat, by omega⟩
    refine (rnew_ok (w := w) (B := w.heap.size) (Nat.le_refl _) k (by omega) (by omega)).mono ?_
    rintro e w' ⟨v, rfl, p, F, rfl, -, hm, -⟩
    exact ⟨_, 0, rfl, by rw [if_neg h], hm⟩

theorem Apart.cellBase {w0 w : World} {Ts : List (Thg w0.heap.size)} (h : Apart w0 w0.heap.size Ts w) {a : Addr} {v : Value} (hc : w0.cell? a = some v) : w.cell? a = some v :=
  (h.bel.cell (p := a) (World.block_lt_of_cell? _ _ hc)).trans hc
theorem Apart.doBase {w0 w : World} {Ts : List (Thg w0.heap.size)} {p : Nat} {D : Dsk} (h : Apart w0 w0.heap.size Ts w) (i : Nat) (hi : Ts[i]? = some (DiskT w0.heap.size p D)) (hlim : D.l.length + 1 ≤ 1048576) (o : OpV) (ab : Option Addr) (cb : Nat) (al : Option Addr) (cl : Nat)
    (hb : BytesAt w0 ab o.b) (hab : ab = none → cb = 0) (hl : IntsAt w0 al o.l) (hm : o.b.length ≤ 140737488351232) (hml : o.l.length ≤ 140737488351232)
    (hbB : ∀ x, ab = some x → o.b ≠ [] → x.block < w0.heap.size) (hlB : ∀ x, al = some x → o.l ≠ [] → x.block < w0.heap.size) :
    Calls Try.prog 32 #[.pointer (some ⟨p, 0, none⟩), .agg #[.int .i64 o.kind, .int .i64 o.n, .slice ab o.b.length cb, .slice al o.l.length cl]] w fun e w' =>
      e = .returned (.int .i64 (D.doCode o)) ∧ Apart w0 w0.heap.size (Ts.set i (DiskT w0.heap.size p (D.step o))) w' :=
  h.doOp i hi hlim o ab cb al cl (hb.below h.bel hbB) hab (hl.mod (Mod.of_below h.bel) (fun x hx hne e => by have := hlB x hx hne; omega)) hm hml hbB hlB
theorem Apart.alike {w0 w : World} {B p q : Nat} {Ts : List (Thg B)} {D : Dsk} (h : Apart w0 B Ts w) (i j : Nat) (hi : Ts[i]? = some (DiskT B p D)) (hj : Ts[j]? = some (RDiskT B q D)) (hlim : D.l.length ≤ 1048576) :
    Calls Try.prog 51 #[.pointer (some ⟨p, 0, none⟩), .pointer (some ⟨q, 0, none⟩)] w fun e w' => e = .returned (.bool true) ∧ Apart w0 B Ts w' := by
  obtain ⟨F, hd⟩ := h.disk i hi
  obtain ⟨G, hr⟩ := h.rdisk j hj
  exact (alike_any hd hr hlim).mono fun e w' ⟨he, hm⟩ => ⟨he, h.still hm⟩

/-- the disk and the reference's; a copy -/
def TP (B b r : Nat) (D : Dsk) : List (Thg B) := [DiskT B b D, RDiskT B r D]
def TP2 (B b r : Nat) (D E : Dsk) : List (Thg B) := [DiskT B b D, RDiskT B r E]
def TP3 (B b r c : Nat) (D E : Dsk) : List (Thg B) := [DiskT B b D, RDiskT B r D, DiskT B c E]

set_option maxHeartbeats 4000000 in
set_option maxRecDepth 100000 in
theorem plays_walk (n0 : Int) (ai : Option Addr) (li : List UInt8) (capi : Nat) (a : Option Addr) (l : List OpV) (cap : Nat) (w : World) (hai : BytesAt w ai li) (hni : ai = none → capi = 0) (hci : li.length ≤ capi) (hmi : li.length ≤ 140737488351232) (ha : OpsAt w a l)
    (_h1 : l.length ≤ 140737488351232) :
    Calls Try.prog 12 #[.int .i64 n0, .slice ai li.length capi, .slice a l.length cap] w fun e w' => e = .returned (.bool true) ∧ Below w.heap.size w w' := by
  have kc := fun w C n c => Lib.run_convert_bytes_const (P := Try.prog) w 22 5 C n c Try.underlying22 Try.underlying5
  obtain ⟨c0, hc0⟩ : ∃ c0 : Int, c0 = if n0 < 1 ∨ 4096 < n0 then 1 else 0 := ⟨_, rfl⟩
  have HC0 := Lib.hid hc0
  clear hc0
  go_enter Try.func12, Try.ntmps12
  go_wp2_with fail
  refine (new_any n0).mono ?_
  rintro e w1 ⟨o, c, rfl, hoc, hcc, m1⟩
  rw [← HC0.out] at hcc
  subst hcc
  go_wp2_with fail
  refine (rnew_any n0).mono ?_
  rintro e w2 ⟨o2, c2, rfl, hcc2, m2⟩
  rw [← HC0.out] at hcc2
  subst hcc2
  have L0 : Apart w w.heap.size [] w2 := Apart.nil ((m1.trans' m2).below (fun _ e => e.elim) (Nat.le_refl _)) (m1.trans' m2).size
  clear m1 m2
  have hai2 := hai.below L0.bel (fun x e hl => by subst e; exact hai.lt hl)
  go_wp2_with fail
  refine (lent_any ai li capi w2 w.heap.size L0.le hmi hni hai2).mono ?_
  rintro e w3 ⟨g, cg, rfl, hL, m3, hg⟩
  have L3 : Apart w w.heap.size [LentT w.heap.size g cg li] w3 := L0.more (LentT w.heap.size g cg li) m3 (F := fun k => (Value.slice (some ⟨g, 0, none⟩) (li.length + 1) cg).ownBlock = some k) ⟨hL, rfl⟩ (fun k hk => by simp [Value.ownBlock] at hk; omega)
  clear hL m3 hg L0 hai2
  have HAI := Lib.hid hai
  clear hai
  have KEPT : ∀ Ts w', Ts[0]? = some (LentT w.heap.size g cg li) → Apart w w.heap.size Ts w' → Calls Try.prog 48 #[.slice (some ⟨g, 0, none⟩) li.length cg, .slice ai li.length capi] w' fun e w'' => e = .returned (.bool true) ∧ w' = w'' := fun Ts w' h0 h => by
    have hL := h.bytes 0 h0
    exact kept_any li hL ai capi (HAI.out.below h.bel (fun x e hl => by subst e; exact HAI.out.lt hl)) hmi hni
  have SPOIL : ∀ Ts w', Ts[0]? = some (LentT w.heap.size g cg li) → Apart w w.heap.size Ts w' → Calls Try.prog 49 #[.slice (some ⟨g, 0, none⟩) li.length cg] w' fun e w'' => e = .returned (.tuple #[]) ∧ Apart w w.heap.size (Ts.set 0 (EmpT w.heap.size)) w'' := fun Ts w' h0 h => by
    obtain ⟨F, ⟨hL, rfl⟩, hup⟩ := h.turn 0 h0
    refine (spoil_any (OwnB.front hL) h.le hmi).mono ?_
    rintro e w'' ⟨he, hm⟩
    exact ⟨he, hup _ _ ⟨hm.mono (fun k _ e => e.symm), _, rfl, fun k hk => hk.elim⟩⟩
  have KEPT := Lib.hid KEPT
  have SPOIL := Lib.hid SPOIL
  have hL3 := (L3.bytes 0 rfl)
  have hL3' : LentB w3 w.heap.size g cg li := hL3
  by_cases hI : imageOk li.length
  · go_wp2_with fail
    refine (load_ok (B := w.heap.size) L3.le (some ⟨g, 0, none⟩) li cg hL3'.bytes.1 (by omega) hI).mono ?_
    rintro e w4 ⟨vb, rfl, hb4⟩
    obtain ⟨b, rfl, L4⟩ := L3.born hb4
    have hai4 := HAI.out.below L4.bel (fun x e hl => by subst e; exact HAI.out.lt hl)
    clear hb4 hL3 hL3' L3
    go_wp2_with fail
    refine (rload_ok (B := w.heap.size) L4.le ai li capi hai4 hci hI).mono ?_
    rintro e w5 ⟨vr, rfl, hb5⟩
    obtain ⟨r, rfl, L5⟩ := L4.rborn hb5
    replace L5 : Apart w w.heap.size [LentT w.heap.size g cg li, DiskT w.heap.size b (Dsk.of li), RDiskT w.heap.size r (Dsk.of li)] w5 := L5
    clear hb5 L4 hai4
    have HI := Lib.hid hI
    clear hI
    go_upto_region 6 with fail
    go_cut [67] (fun s67 wx => s67 = .bool false ∧ w5 = wx)
    case first =>
      rcases hoc with ⟨e0, pp, e1⟩ | ⟨e0, e1⟩
      all_goals
        subst e0 e1
        go_wp2_with (go_at_call 48; refine (KEPT.out _ _ rfl L5).mono ?_; rintro e w' ⟨rfl, rfl⟩)
        go_meet
        exact ⟨rfl, rfl⟩
    case rest =>
      obtain ⟨rfl, rfl⟩ := hcut
      go_wp2_with fail
      refine (SPOIL.out _ _ rfl L5).mono ?_
      rintro e w6 ⟨rfl, L6⟩
      have L7 : Apart w w.heap.size (TP w.heap.size b r (Dsk.of li)) w6 := L6.pick _ (fun i => i + 1) (fun i hi => by
        have : i = 0 ∨ i = 1 := by simp [TP] at hi; omega
        rcases this with rfl | rfl <;> rfl) (fun i j _ _ h => by omega)
      clear L5 L6 hoc
      have hD0 : (Dsk.of li).l.length = 0 := rfl
      generalize hDD : Dsk.of li = D0 at *
      obtain ⟨G, vs, vl, xs, ys, hRV, hGe⟩ := L7.rdisk 1 rfl
      obtain ⟨d0, -⟩ := hRV.cell
      obtain ⟨as1, cs1, es, -, -, -⟩ := owns_shape hRV.safe
      rw [es, hRV.hx] at d0
      have hNmx := hRV.wf.top
      clear es hRV hGe hDD
      by_cases h20 : (20 : Int) < (D0.N : Int)
      · go_wp2_with (go_at_call 35; refine L7.known3.mono ?_; rintro e w8 ⟨rfl, L8⟩)
        go_ret
        exact ⟨rfl, L8.bel⟩
      · go_upto_block 0 with fail
        clear d0
        go_cut [] (fun wx => ∃ D : Dsk, D.l.length ≤ 100 ∧ Apart w w.heap.size (TP w.heap.size b r D) wx)
        case first =>
          go_wp2_with fail
          go_loopw [16] (fun v16 wr => ∃ (k : Nat) (D : Dsk), k ≤ l.length ∧ k ≤ 100 ∧ v16 = .int .i64 (k : Int) ∧ D.l.length ≤ k ∧ Apart w w.heap.size (TP w.heap.size b r D) wr) (fun v16 _ => 100 - (intOf v16).toNat)
          case atStart => exact ⟨0, D0, Nat.zero_le _, Nat.zero_le _, rfl, by omega, L7⟩
          case round =>
            obtain ⟨k, D, hk, hk6, rfl, hDl, L⟩ := hrel
            clear L7
            by_cases hlt : (k : Int) < (l.length : Int)
            · by_cases h60 : (k : Int) < 100
              · obtain ⟨bb, off, rfl, ab', cb', al, cl, q0, q1, q2, q3, r1, r2, r3, r4, r5, r6, r7⟩ := ha.here (Below.refl _ _) (k := k) (by omega)
                generalize l[k] = o at *
                have hwf := (L.disk 0 rfl).elim fun _ hd => hd.wf
                have hsz := (hwf.step_len o).2
                have hl1 : D.l.length + 1 ≤ 1048576 := by omega
                have hl2 : (D.step o).l.length ≤ 1048576 := by omega
                have K1 : ∀ w', Apart w w.heap.size (TP w.heap.size b r D) w' → Calls Try.prog 32 #[.pointer (some ⟨b, 0, none⟩), .agg #[.int .i64 o.kind, .int .i64 o.n, .slice ab' o.b.length cb', .slice al o.l.length cl]] w' fun e w'' => e = .returned (.int .i64 (D.doCode o)) ∧ Apart w w.heap.size (TP2 w.heap.size b r (D.step o) D) w'' := fun w' h => h.doBase 0 rfl hl1 o ab' cb' al cl r1 r2 r3 r4 r5 r6 r7
                have K2 : ∀ w', Apart w w.heap.size (TP2 w.heap.size b r (D.step o) D) w' → Calls Try.prog 50 #[.pointer (some ⟨r, 0, none⟩), .agg #[.int .i64 o.kind, .int .i64 o.n, .slice ab' o.b.length cb', .slice al o.l.length cl]] w' fun e w'' => e = .returned (.int .i64 (D.doCode o)) ∧ Apart w w.heap.size (TP w.heap.size b r (D.step o)) w'' := fun w' h => h.rdoBase 1 rfl hl1 o ab' cb' al cl r1 r3 r4 r5 r6 r7
                have K3 : ∀ w', Apart w w.heap.size (TP w.heap.size b r (D.step o)) w' → Calls Try.prog 51 #[.pointer (some ⟨b, 0, none⟩), .pointer (some ⟨r, 0, none⟩)] w' fun e w'' => e = .returned (.bool true) ∧ Apart w w.heap.size (TP w.heap.size b r (D.step o)) w'' := fun w' h => h.alike 0 1 rfl rfl hl2
                have KK : ∀ T w', Apart w w.heap.size T w' → w'.cell? ⟨bb, off + k * 4, none⟩ = some (.int .i64 o.kind) ∧ w'.cell? ⟨bb, off + k * 4 + 1, none⟩ = some (.int .i64 o.n) ∧ w'.cell? ⟨bb, off + k * 4 + 2, none⟩ = some (.slice ab' o.b.length cb') ∧ w'.cell? ⟨bb, off + k * 4 + 3, none⟩ = some (.slice al o.l.length cl) := fun T w' h => ⟨h.cellBase q0, h.cellBase q1, h.cellBase q2, h.cellBase q3⟩
                replace K1 := Lib.hid K1
                replace K2 := Lib.hid K2
                replace K3 := Lib.hid K3
                replace KK := Lib.hid KK
                clear q0 q1 q2 q3 r1 r2 r3 r4 r5 r6 r7 hwf ha kc
                go_upto_region 14 with fail
                have LD := L.drew
                clear L
                go_cut [109] (fun s109 wx => s109 = .bool false ∧ Apart w w.heap.size (TP w.heap.size b r (D.step o)) wx)
                case first =>
                  go_region_held3 (fun w' => w'.cell? ⟨bb, off + k * 4, none⟩ = some (.int .i64 o.kind) ∧ w'.cell? ⟨bb, off + k * 4 + 1, none⟩ = some (.int .i64 o.n) ∧ w'.cell? ⟨bb, off + k * 4 + 2, none⟩ = some (.slice ab' o.b.length cb') ∧ w'.cell? ⟨bb, off + k * 4 + 3, none⟩ = some (.slice al o.l.length cl)) (exact KK.out _ _ (by assumption))
                    (first
                      | (go_at_call 32; (with_reducible refine (K1.out _ (by assumption)).mono ?_); rintro e wa ⟨rfl, LA⟩)
                      | (go_at_call 50; (with_reducible refine (K2.out _ (by assumption)).mono ?_); rintro e wb ⟨rfl, LB⟩)
                      | (go_at_call 51; (with_reducible refine (K3.out _ (by assumption)).mono ?_); rintro e wc ⟨rfl, LC⟩))
                  all_goals
                    go_wp2_with fail
                    go_meet
                    exact ⟨rfl, LC⟩
                case rest =>
                  obtain ⟨rfl, L5⟩ := hcut
                  go_wp2
                  go_roundw
                  case rel => exact ⟨k + 1, D.step o, by omega, by omega, by go_num, by omega, L5⟩
                  case measure => simp [intOf]; omega
              · go_wp2
                go_meet
                exact ⟨D, by omega, L⟩
            · go_wp2
              go_meet
              exact ⟨D, by omega, L⟩
        case rest =>
          obtain ⟨D, hDl, L⟩ := hcut
          clear L7
          have hl2 : D.l.length ≤ 1048576 := by omega
          have hl1 : D.l.length + 1 ≤ 1048576 := by omega
          go_wp2_with fail
          refine (L.copy 0 rfl hl2).mono ?_
          rintro e w8 ⟨c, rfl, L8⟩
          replace L8 : Apart w w.heap.size (TP3 w.heap.size b r c D D) w8 := L8
          clear L
          go_wp2_with fail
          refine (L8.alike 2 1 rfl rfl hl2).mono ?_
          rintro e w9 ⟨rfl, L9⟩
          clear L8
          go_wp2_with fail
          have L9' := L9.alloc (.cells #[.int .u8 111, .int .u8 116, .int .u8 104, .int .u8 101, .int .u8 114] 5 (5, 6))
          refine (L9'.write 2 rfl hl1 0 _ [111, 116, 104, 101, 114] 5 5 rfl (by exact bytesAt_new' rfl rfl) (by decide)).mono ?_
          rintro e w10 ⟨rfl, L10⟩
          replace L10 : Apart w w.heap.size (TP3 w.heap.size b r c D (D.write 0 [111, 116, 104, 101, 114])) w10 := L10
          clear L9 L9'
          generalize D.write 0 [111, 116, 104, 101, 114] = E at *
          go_wp2_with fail
          refine (L10.crashNil 2 rfl).mono ?_
          rintro e w11 ⟨rfl, L11⟩
          replace L11 : Apart w w.heap.size (TP3 w.heap.size b r c D (E.crash [])) w11 := L11
          clear L10
          go_wp2_with fail
          refine (L11.alike 0 1 rfl rfl hl2).mono ?_
          rintro e w12 ⟨rfl, L12⟩
          go_wp2_with (go_at_call 35; refine L12.known3.mono ?_; rintro e w13 ⟨rfl, L13⟩)
          go_ret
          exact ⟨rfl, L13.bel⟩
  · go_wp2_with fail
    refine (load_no (some ⟨g, 0, none⟩) li cg (by omega) hI).mono ?_
    rintro e w' ⟨rfl, rfl⟩
    go_wp2_with fail
    refine (rload_no ai li capi (by omega) hI).mono ?_
    rintro e w' ⟨rfl, rfl⟩
    clear hL3 hL3'
    go_upto_region 6 with fail
    go_cut [67] (fun s67 wx => s67 = .bool false ∧ w3 = wx)
    case first =>
      rcases hoc with ⟨e0, pp, e1⟩ | ⟨e0, e1⟩
      all_goals
        subst e0 e1
        go_wp2_with (go_at_call 48; refine (KEPT.out _ _ rfl L3).mono ?_; rintro e w' ⟨rfl, rfl⟩)
        go_meet
        exact ⟨rfl, rfl⟩
    case rest =>
      obtain ⟨rfl, rfl⟩ := hcut
      go_wp2_with fail
      refine (SPOIL.out _ _ rfl L3).mono ?_
      rintro e w6 ⟨rfl, L6⟩
      clear L3
      go_wp2_with (go_at_call 35; refine L6.known3.mono ?_; rintro e w8 ⟨rfl, L8⟩)
      go_ret
      exact ⟨rfl, L8.bel⟩

theorem plays_all (W : World) {v1 v2 : Value} {a0 : Int} {l1 : List UInt8} {l2 : List OpV} (_w0 : (Lit.int .i64 a0).wf = true) (o1 : RdB W v1 l1) (o2 : RdO W v2 l2) :
    Calls Try.prog 12 #[.int .i64 a0, v1, v2] W fun e w' => e = .returned (.bool true) ∧ Below W.heap.size W w' := by
  obtain ⟨a, c, rfl, h1, n1, m1, k1⟩ := o1
  obtain ⟨a2, c2, rfl, h2, m2⟩ := o2
  exact plays_walk a0 a l1 c a2 l2 c2 W h1 n1 k1 m1 h2 m2
end Go.Proofs.Ytdinnkacilgmmaa
