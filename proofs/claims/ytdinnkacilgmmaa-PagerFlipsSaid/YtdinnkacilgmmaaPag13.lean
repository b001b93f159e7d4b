/- The pager: Flip. -/
import Derived.Test.YtdinnkacilgmmaaPag12
namespace Go.Proofs.Ytdinnkacilgmmaa
open Go.RowKit

def Pgr.badArgs (P : Pgr) (page next : Int) : Bool := (page != -1 && !P.there page) || decide (next < 1) || decide (1152921504606846976 < next)
/-- what Flip says before it begins -/
def Pgr.whyFlip (P : Pgr) (page next : Int) (m : List UInt8) (l : List Int) : Int :=
  if P.dead = true then 21 else if P.badArgs page next = true then 1 else if l.any P.noFlip = true then 1 else if 100 < m.length then 3 else 0
def Pgr.toFlip (P : Pgr) (page next : Int) (m : List UInt8) : Rt := ⟨P.root.gen + 1, page, next.toNat, m⟩
/-- what becomes of the disk -/
def flipD (D : Dsk) (n : Int) (s : List UInt8) : Int × Dsk :=
  if D.whySync ≠ 0 then (D.whySync, D.sync) else if D.sync.why n s ≠ 0 then (D.sync.why n s, D.sync.write n s) else ((D.sync.write n s).whySync, (D.sync.write n s).sync)
theorem flipD_no {D : Dsk} (n : Int) (s : List UInt8) (h : D.whySync ≠ 0) : flipD D n s = (D.whySync, D.sync) := by unfold flipD; rw [if_pos h]
theorem flipD_ok {D : Dsk} (n : Int) (s : List UInt8) (h : D.whySync = 0) : flipD D n s = if D.sync.why n s ≠ 0 then (D.sync.why n s, D.sync.write n s) else ((D.sync.write n s).whySync, (D.sync.write n s).sync) := by
  unfold flipD; rw [if_neg (by rw [h]; decide)]
def Pgr.flip (P : Pgr) (D : Dsk) (page next : Int) (m : List UInt8) (l : List Int) : Int × Pgr × Dsk :=
  if P.whyFlip page next m l ≠ 0 then (P.whyFlip page next m l, P, D)
  else if (flipD D ((P.frm + (P.root.gen + 1) % 2 : Nat) : Int) (slotB (P.toFlip page next m))).1 = 0 then
    (0, { P with root := P.toFlip page next m, is_ := setAll l zeros4096 }, (flipD D ((P.frm + (P.root.gen + 1) % 2 : Nat) : Int) (slotB (P.toFlip page next m))).2)
  else ((flipD D ((P.frm + (P.root.gen + 1) % 2 : Nat) : Int) (slotB (P.toFlip page next m))).1, { P with dead := true }, (flipD D ((P.frm + (P.root.gen + 1) % 2 : Nat) : Int) (slotB (P.toFlip page next m))).2)

/-- what Flip leaves -/
def FSaid (w : World) (B B2 q p : Nat) (vm : Value) (F : Nat → Prop) (o : Int × Pgr × Dsk) (e : Ending) (w' : World) : Prop :=
  e = .returned (.int .i64 o.1) ∧ ∃ vm' F', PgV w' B q p vm' o.2.1 ∧ DiskAt w' B2 p o.2.2 F' ∧ (∀ k, F' k → F k ∨ w.heap.size ≤ k) ∧ (∀ k, vm'.ownBlock = some k → (vm.ownBlock = some k ∨ w.heap.size ≤ k) ∧ ¬ F' k) ∧ Mod (fun k => k = q ∨ F k) w w'

theorem FSaid.same {w w' : World} {B B2 q p : Nat} {vm : Value} {P : Pgr} {D : Dsk} {F : Nat → Prop} {c : Int} (hp : PgV w B q p vm P) (hd : DiskAt w B2 p D F) (hmF : ∀ k, vm.ownBlock = some k → ¬ F k) (hm : Mod (fun _ => False) w w') {o : Int × Pgr × Dsk} (ho : o = (c, P, D)) :
    FSaid w B B2 q p vm F o (.returned (.int .i64 c)) w' := by
  subst ho
  exact ⟨rfl, vm, F, hp.mod hm (fun _ _ => id), hd.mod hm (fun _ _ => id), fun k hk => .inl hk, fun k hk => ⟨.inl hk, hmF k hk⟩, hm.mono (fun _ _ e => e.elim)⟩

/-- a box with a pointer, and a root in a variable -/
structure FL (w : World) (k0 q G : Nat) (page next : Int) (b : List UInt8) (kr : Nat) (a : Option Addr) (c : Nat) (W : World) : Prop where
  m : Mod (fun _ => False) w W
  bx : Boxed W k0 93 (.pointer (some ⟨q, 0, none⟩))
  lt : k0 < kr
  rt : W.heap[kr]? = some (.cells #[.int .i64 (G : Int), .int .i64 page, .int .i64 next, .slice a b.length c] 95 (0, 0))
  ow : OwnB W k0 (.slice a b.length c) b
  ne : ∀ k, (Value.slice a b.length c).ownBlock = some k → k0 < k ∧ k ≠ kr

/-- between Flip's calls of the disk -/
structure FX (wc : World) (B B2 q p : Nat) (vm : Value) (P : Pgr) (F : Nat → Prop) (D : Dsk) (W : World) : Prop where
  pg : PgV W B q p vm P
  dk : ∃ F', DiskAt W B2 p D F' ∧ ∀ k, F' k → F k ∨ wc.heap.size ≤ k
  m : Mod F wc W
  hq : q < wc.heap.size ∧ ¬ F q
  hm : ∀ k, vm.ownBlock = some k → k < wc.heap.size ∧ ¬ F k
theorem FX.still {wc W W' : World} {B B2 q p : Nat} {vm : Value} {P : Pgr} {F : Nat → Prop} {D : Dsk} (h : FX wc B B2 q p vm P F D W) (hm : Mod (fun _ => False) W W') : FX wc B B2 q p vm P F D W' := by
  obtain ⟨F', h1, h2⟩ := h.dk
  exact ⟨h.pg.mod hm (fun _ _ => id), ⟨F', h1.mod hm (fun _ _ => id), h2⟩, h.m.trans hm (fun _ _ e => e.elim), h.hq, h.hm⟩
theorem FX.turn {wc W : World} {B B2 q p : Nat} {vm : Value} {P : Pgr} {F : Nat → Prop} {D : Dsk} (h : FX wc B B2 q p vm P F D W) :
    ∃ F', DiskAt W B2 p D F' ∧ ∀ (D' : Dsk) (W' : World), Turned W B2 p F' D' W' → FX wc B B2 q p vm P F D' W' := by
  obtain ⟨F', h1, h2⟩ := h.dk
  refine ⟨F', h1, fun D' W' ⟨hm, F'', h3, h4⟩ => ⟨h.pg.mod hm (fun k hk e => ?_), ⟨F'', h3, fun k hk => ?_⟩, h.m.trans hm (fun k hk e => ?_), h.hq, h.hm⟩⟩
  · have hk' : k < wc.heap.size ∧ ¬ F k := hk.elim (fun e => e ▸ h.hq) (fun e => h.hm k e.symm)
    rcases h2 k e with e | e
    · exact hk'.2 e
    · omega
  · rcases h4 k hk with e | e
    · exact h2 k e
    · have := h.m.size; exact .inr (by omega)
  · rcases h2 k e with e | e
    · exact e
    · omega
theorem FX.die {w wc W : World} {B B2 q p : Nat} {vm : Value} {P : Pgr} {F : Nat → Prop} {D : Dsk} {c : Int} (h : FX wc B B2 q p vm P F D W) (hm : Mod (fun _ => False) w wc) {o : Int × Pgr × Dsk} (ho : o = (c, { P with dead := true }, D)) (hqw : q < w.heap.size) :
    FSaid w B B2 q p vm F o (.returned (.int .i64 c)) (W.setCell ⟨q, 4103, none⟩ (.bool true)) := by
  subst ho
  obtain ⟨F', h1, h2⟩ := h.dk
  have hz := hm.size
  have ms : Mod (fun k => k = q) W (W.setCell ⟨q, 4103, none⟩ (.bool true)) := Mod.setCell _ _ _ rfl
  refine ⟨rfl, vm, F', h.pg.setDead true, h1.mod ms (fun k hk e => ?_), fun k hk => (h2 k hk).imp id (fun e => by omega), fun k hk => ⟨.inl hk, fun e => ?_⟩, ((hm.mono (fun _ _ e => e.elim)).trans' (h.m.mono (fun _ _ e => .inr e))).trans' (ms.mono (fun _ _ e => .inl e))⟩
  · subst e
    rcases h2 _ hk with e | e
    · exact h.hq.2 e
    · have := h.hq.1; omega
  · have := h.hm k hk
    rcases h2 k e with e | e
    · exact this.2 e
    · omega

set_option maxHeartbeats 2000000 in
set_option maxRecDepth 100000 in
theorem pflip_any {w : World} {B B2 q p : Nat} {vm : Value} {P : Pgr} {D : Dsk} {F : Nat → Prop} (hp : PgV w B q p vm P) (hd : DiskAt w B2 p D F) (hwf : P.wf D) (hqF : ¬ F q) (hmF : ∀ k, vm.ownBlock = some k → ¬ F k)
    (page next : Int) (am : Option Addr) (b : List UInt8) (nm cm : Nat) (hnm : b.length = nm) (hbl : b.length ≤ 140737488355328) (ham : am = none → cm = 0) (hb : BytesAt w am b)
    (a : Option Addr) (l : List Int) (n cap : Nat) (hn : l.length = n) (hll : l.length ≤ 140737488355328) (hl : IntsAt w a l) (hla : ∀ x, a = some x → l ≠ [] → ¬ x.block = q ∧ ¬ F x.block)
    (hlim : D.l.length + 1 ≤ 1048576) (hgen : P.root.gen + 1 < 4611686018427387904) :
    Calls Try.prog 68 #[.pointer (some ⟨q, 0, none⟩), .int .i64 page, .int .i64 next, .slice am nm cm, .slice a n cap] w fun e w' => FSaid w B B2 q p vm F (P.flip D page next b l) e w' := by
  subst hnm hn
  obtain ⟨o, ho⟩ : ∃ o, o = P.flip D page next b l := ⟨_, rfl⟩
  rw [← ho]
  unfold Pgr.flip Pgr.whyFlip at ho
  have hpg : P.pages ≤ 4096 := by have := hwf.fit; have := hwf.top; omega
  obtain ⟨k0, hk0⟩ : ∃ k0, k0 = w.heap.size := ⟨_, rfl⟩
  obtain ⟨W1, hW1⟩ : ∃ W1, W1 = w.alloc (.cells #[.pointer (some ⟨q, 0, none⟩)] 93) := ⟨_, rfl⟩
  have m1 : Mod (fun _ => False) w W1 := by rw [hW1]; exact Mod.alloc _ _ _
  have bx : Boxed W1 k0 93 (.pointer (some ⟨q, 0, none⟩)) := by rw [hW1, hk0]; exact heap_alloc_new _ _
  have z1 : W1.heap.size = k0 + 1 := by rw [hW1, hk0]; simp
  have hp1 := hp.mod m1 (fun _ _ => id)
  have hl1 := hl.mod m1 (fun _ _ _ => id)
  have hb1 := hb.mod m1 (fun _ _ _ => id)
  have hd1 := hd.mod m1 (fun _ _ => id)
  have hqw := lt_of_block hp.at_
  have hFw : ∀ k, F k → k < k0 := fun k hk => by rw [hk0]; exact (hd.lt k hk).2
  have HP := Lib.hid hp
  have HD := Lib.hid hd
  have HLA := Lib.hid hla
  have HL0 := Lib.hid hl
  have HO := Lib.hid ho
  have HMF := Lib.hid hmF
  have M1 := Lib.hid m1
  have HP1 := Lib.hid hp1
  have HL1 := Lib.hid hl1
  have HB1 := Lib.hid hb1
  have HD1 := Lib.hid hd1
  have HW1 := Lib.hid hW1
  have HK0 := Lib.hid hk0
  have HFW := Lib.hid hFw
  have HBX := Lib.hid bx
  have c5 : W1.cell? ⟨q, 4103, none⟩ = some (.bool P.dead) := hp1.tail.2.2.2.2
  have x0 := bx.cell
  rw [hW1] at c5
  have Z1 := Lib.hid z1
  clear hp hd hla ho hmF hp1 hl1 hb1 hd1 hk0 hFw m1 bx hl hb hW1 z1
  cases hdd : P.dead with
  | true =>
    rw [hdd] at c5
    have ho := HO.out
    rw [hdd] at ho
    simp only [if_true] at ho
    have HO' := Lib.hid (ho : o = (21, P, D))
    clear ho hdd
    go_enter Try.func68, Try.ntmps68
    go_wp2
    go_ret
    exact FSaid.same HP.out HD.out HMF.out (Mod.alloc _ _ _) HO'.out
  | false =>
  rw [hdd] at c5
  have hoo := HO.out
  rw [hdd] at hoo
  simp only [Bool.false_eq_true, if_false] at hoo
  have HOO := Lib.hid hoo
  clear hoo HO
  go_enter Try.func68, Try.ntmps68
  go_upto_region 5 with fail
  rw [← HW1.out, ← HK0.out]
  clear c5
  have KT := there_any HP1.out page
  obtain ⟨bad, hbad⟩ : ∃ bad, bad = P.badArgs page next := ⟨_, rfl⟩
  have hoo := HOO.out
  rw [← hbad] at hoo
  replace HOO := Lib.hid hoo
  clear hoo
  unfold Pgr.badArgs at hbad
  have HBAD := Lib.hid hbad
  have HDD := Lib.hid hdd
  clear hbad hdd
  go_cut [21] (fun v21 wx => v21 = .bool bad ∧ W1 = wx)
  case first =>
    by_cases h1 : page = -1
    · have hb1 : (page != -1) = false := by rw [h1]; rfl
      have hbad := HBAD.out
      rw [hb1] at hbad
      simp only [Bool.false_and, Bool.false_or] at hbad
      replace HBAD := Lib.hid hbad
      clear hbad h1
      by_cases h2 : next < 1
      · go_wp2_with fail
        go_meet
        exact ⟨congrArg Value.bool (by rw [HBAD.out]; simp [h2]), rfl⟩
      · go_wp2_with fail
        go_meet
        exact ⟨congrArg Value.bool (by rw [HBAD.out, decide_eq_false (show ¬ next < 1 by omega)]; simp), rfl⟩
    · have hb1 : (page != -1) = true := by simpa using h1
      have hbad := HBAD.out
      rw [hb1] at hbad
      simp only [Bool.true_and] at hbad
      generalize P.there page = t at *
      replace HBAD := Lib.hid hbad
      replace KT := Lib.hid KT
      clear hbad h1
      cases t
      · go_wp2_with (first | (go_at_call 107; refine KT.out.mono ?_; rintro e wb ⟨rfl, rfl⟩))
        go_meet
        exact ⟨congrArg Value.bool (by rw [HBAD.out]; simp), rfl⟩
      · by_cases h2 : next < 1
        · go_wp2_with (first | (go_at_call 107; refine KT.out.mono ?_; rintro e wb ⟨rfl, rfl⟩))
          go_meet
          exact ⟨congrArg Value.bool (by rw [HBAD.out]; simp [h2]), rfl⟩
        · go_wp2_with (first | (go_at_call 107; refine KT.out.mono ?_; rintro e wb ⟨rfl, rfl⟩))
          go_meet
          exact ⟨congrArg Value.bool (by rw [HBAD.out, decide_eq_false (show ¬ next < 1 by omega)]; simp), rfl⟩
  case rest =>
    obtain ⟨rfl, rfl⟩ := hcut
    clear KT
    cases bad with
    | true =>
      have hoo := HOO.out
      rw [if_pos rfl, if_pos (by decide)] at hoo
      replace HOO := Lib.hid hoo
      clear hoo
      go_wp2
      go_ret
      exact FSaid.same HP.out HD.out HMF.out M1.out HOO.out
    | false =>
    simp only [Bool.false_eq_true, if_false] at HOO
    have KC := contains_110 a l l.length cap rfl hll HL1.out (.pointer (some ⟨k0, 0, none⟩)) P.noFlip (fun x => close110_any HP1.out hpg x0 x)
    cases hany : l.any P.noFlip with
    | true =>
      have hoo := HOO.out
      rw [hany, if_pos rfl, if_pos (by decide)] at hoo
      rw [hany] at KC
      replace HOO := Lib.hid hoo
      replace KC := Lib.hid KC
      clear hoo hany
      go_wp2_with fail
      refine KC.out.mono ?_
      rintro e wb ⟨rfl, rfl⟩
      go_wp2
      go_ret
      exact FSaid.same HP.out HD.out HMF.out M1.out HOO.out
    | false =>
    rw [hany] at KC HOO
    simp only [Bool.false_eq_true, if_false] at HOO
    have HALL := Lib.hid (not_any_noFlip hany hpg)
    replace KC := Lib.hid KC
    clear hany
    by_cases hlen : 100 < b.length
    · have hoo := HOO.out
      rw [if_pos hlen, if_pos (by decide)] at hoo
      replace HOO := Lib.hid hoo
      have hl1 : 100 < (b.length : Int) := by omega
      clear hoo hlen
      go_wp2_with fail
      refine KC.out.mono ?_
      rintro e wb ⟨rfl, rfl⟩
      go_wp2
      go_ret
      exact FSaid.same HP.out HD.out HMF.out M1.out HOO.out
    · have hl1 : (b.length : Int) ≤ 100 := by omega
      simp only [if_neg hlen, ne_eq, not_true_eq_false, if_false] at HOO
      clear hlen
      go_wp2_with fail
      refine KC.out.mono ?_
      rintro e wb ⟨rfl, rfl⟩
      clear KC
      go_upto_region 11 with fail
      have hargs : (page = -1 ∨ P.there page = true) ∧ 1 ≤ next ∧ next ≤ 1152921504606846976 := by
        have h := HBAD.out.symm
        simp only [Bool.or_eq_false_iff, Bool.and_eq_false_iff, decide_eq_false_iff_not, bne_eq_false_iff_eq, Bool.not_eq_false'] at h
        exact ⟨h.1.1, by omega, by omega⟩
      have hpage : -1 ≤ page ∧ page ≤ 4096 := by
        rcases hargs.1 with h | h
        · omega
        · have h2 : 0 ≤ page ∧ page < (P.pages : Int) := of_decide_eq_true h
          omega
      obtain ⟨nx, rfl⟩ : ∃ nx : Nat, next = (nx : Int) := ⟨next.toNat, by omega⟩
      have hnx : nx ≤ 1152921504606846976 := by omega
      obtain ⟨gn, hgn⟩ : ∃ gn, gn = P.root.gen := ⟨_, rfl⟩
      obtain ⟨G, hG⟩ : ∃ G, G = gn + 1 := ⟨_, rfl⟩
      have hG62 : G < 4611686018427387904 := by omega
      have hR : P.toFlip page (nx : Int) b = ⟨G, page, nx, b⟩ := by unfold Pgr.toFlip; rw [Int.toNat_natCast, hG, hgn]
      have hok : Rt.ok ⟨G, page, nx, b⟩ := ⟨hG62, hpage, by show nx < _; omega, by show b.length ≤ 100; omega⟩
      rw [hR, ← hgn, ← hG] at HOO
      have HOK := Lib.hid hok
      have wG : IntKind.i64.wrap ((gn : Int) + 1) = (G : Int) := by rw [hG]; push_cast; exact IntWalk.i64_in _ (by omega)
      have WG := Lib.hid wG
      have HG := Lib.hid hG
      have hge : w.heap.size ≤ k0 := by rw [HK0.out]; exact Nat.le_refl _
      have HGN := Lib.hid hgn
      have g9 : W1.cell? ⟨q, 4099, none⟩ = some (.int .i64 (gn : Int)) := by rw [hgn]; exact HP1.out.tail.1
      have G9 := Lib.hid g9
      clear hR hok hG hgn wG hargs hgen HBAD g9
      go_cut [11] (fun v11 wx => ∃ kr a' c', v11 = .pointer (some ⟨kr, 0, none⟩) ∧ FL w k0 q G page nx b kr a' c' wx)
      case first =>
        have hamn : am = none → b = [] ∧ cm = 0 := fun e => by
          refine ⟨Classical.byContradiction (fun hne => ?_), ham e⟩
          obtain ⟨g, off, e2, -⟩ := HB1.out hne
          rw [e] at e2
          cases e2
        have KL : ∀ w', Mod (fun _ => False) W1 w' → Calls Try.prog 86 #[.slice am b.length cm] w' fun e w'' => ∃ a' c', e = .returned (.slice a' b.length c') ∧ OwnB w'' k0 (.slice a' b.length c') b ∧ Mod (fun _ => False) w' w'' ∧ (∀ k, (Value.slice a' b.length c').ownBlock = some k → w'.heap.size ≤ k ∧ k < w''.heap.size) := fun w' hm' =>
          (clone_n am b b.length cm w' w'.heap.size rfl (Nat.le_refl _) hbl hamn (HB1.out.mod hm' (fun _ _ _ => id))).mono fun e w'' ⟨v, h1, h2, h3, h4⟩ => by
            obtain ⟨a', c', rfl, -, -, -⟩ := h2.shape
            have hz := hm'.size
            have := Z1.out
            exact ⟨a', c', h1, h2.weaken (by omega), h3, fun k hk => World.ownsRow.lt h2 k hk⟩
        have CS : ∀ w', Mod (fun _ => False) W1 w' → w'.cell? ⟨k0, 0, none⟩ = some (.pointer (some ⟨q, 0, none⟩)) ∧ w'.cell? ⟨q, 4099, none⟩ = some (.int .i64 (gn : Int)) := fun w' hm => ⟨hm.cell' x0 id, hm.cell' G9.out id⟩
        have KLh := Lib.hid KL
        have mdr : Mod (fun _ => False) W1 W1.drew := Mod.drew _ _
        have wG := WG.out
        obtain ⟨Z, hZ⟩ : ∃ Z, Z = W1.alloc (.cells #[.int .i64 0, .int .i64 0, .int .i64 0, .slice none 0 0] 95) := ⟨_, rfl⟩
        have mz : Mod (fun _ => False) W1 Z := by rw [hZ]; exact Mod.alloc _ _ _
        have kz : Z.heap[W1.heap.size]? = some (.cells #[.int .i64 0, .int .i64 0, .int .i64 0, .slice none 0 0] 95 (0, 0)) := by rw [hZ]; exact heap_alloc_new _ _
        have zz : Z.heap.size = W1.heap.size + 1 := by rw [hZ]; simp
        have HZ := Lib.hid hZ
        have KZ := Lib.hid kz
        have ZZ := Lib.hid zz
        have mzd : Mod (fun _ => False) W1 Z.drew := mz.trans' (Mod.drew _ _)
        clear KL hamn ham hZ kz zz
        refine wp_region_held_drew (S := fun w' => w'.cell? ⟨k0, 0, none⟩ = some (.pointer (some ⟨q, 0, none⟩)) ∧ w'.cell? ⟨q, 4099, none⟩ = some (.int .i64 (gn : Int))) (by kernel_rfl) (CS _ mdr) (fun hHeld => ?_)
        refine wpAnyH_take (i := 0) (oi := { dst := some 46, op := Op.load 93 (Operand.tmp 5), type := 93, pos := "pager.go:239", after := #[], guard := none }) (v := ?_) rfl (by kernel_rfl) (by kernel_rfl) (by kernel_rfl) (fun _ _ _ h => h) (Or.inl ⟨by rfl, ?_⟩) (by assumption) ?_
        rotate_left
        · (intro w hSw; (try dsimp only at hSw); go_simp; try with_reducible rfl)
        simp only [Act.put, List.setIfInBounds_toArray, List.set_cons_zero, List.set_cons_succ]
        refine wpAnyH_take (i := 1) (oi := { dst := some 47, op := Op.nilCheck (Operand.tmp 46), type := 0, pos := "pager.go:239", after := #[{ on := 0, ground := Ground.data }], guard := none }) (v := ?_) rfl (by kernel_rfl) (by kernel_rfl) (by kernel_rfl) (fun _ _ _ h => h) (Or.inl ⟨by rfl, ?_⟩) (by assumption) ?_
        rotate_left
        · (intro w hSw; (try dsimp only at hSw); go_simp; try with_reducible rfl)
        simp only [Act.put, List.setIfInBounds_toArray, List.set_cons_zero, List.set_cons_succ]
        refine wpAnyH_take (i := 2) (oi := { dst := some 48, op := Op.fieldAddr 153 (Operand.tmp 47) 4, type := 0, pos := "pager.go:239", after := #[{ on := 1, ground := Ground.data }], guard := none }) (v := ?_) rfl (by kernel_rfl) (by kernel_rfl) (by kernel_rfl) (fun _ _ _ h => h) (Or.inl ⟨by rfl, ?_⟩) (by assumption) ?_
        rotate_left
        · (intro w hSw; (try dsimp only at hSw); go_simp; try with_reducible rfl)
        simp only [Act.put, List.setIfInBounds_toArray, List.set_cons_zero, List.set_cons_succ]
        refine wpAnyH_take (i := 3) (oi := { dst := some 49, op := Op.fieldAddr 95 (Operand.tmp 48) 0, type := 0, pos := "pager.go:239", after := #[{ on := 2, ground := Ground.data }], guard := none }) (v := ?_) rfl (by kernel_rfl) (by kernel_rfl) (by kernel_rfl) (fun _ _ _ h => h) (Or.inl ⟨by rfl, ?_⟩) (by assumption) ?_
        rotate_left
        · (intro w hSw; (try dsimp only at hSw); go_simp; try with_reducible rfl)
        simp only [Act.put, List.setIfInBounds_toArray, List.set_cons_zero, List.set_cons_succ]
        refine wpAnyH_take (i := 4) (oi := { dst := some 50, op := Op.load 2 (Operand.tmp 49), type := 2, pos := "pager.go:239", after := #[{ on := 3, ground := Ground.data }], guard := none }) (v := ?_) rfl (by kernel_rfl) (by kernel_rfl) (by kernel_rfl) (fun _ _ _ h => h) (Or.inl ⟨by rfl, ?_⟩) (by assumption) ?_
        rotate_left
        · (intro w hSw; (try dsimp only at hSw); go_simp; try with_reducible rfl)
        simp only [Act.put, List.setIfInBounds_toArray, List.set_cons_zero, List.set_cons_succ]
        refine wpAnyH_take (i := 5) (oi := { dst := some 51, op := Op.binOp BinOp.add 2 (Operand.tmp 50) (Operand.const (Value.int IntKind.i64 1)) 2, type := 2, pos := "pager.go:239", after := #[{ on := 4, ground := Ground.data }], guard := none }) (v := ?_) rfl (by kernel_rfl) (by kernel_rfl) (by kernel_rfl) (fun _ _ _ h => h) (Or.inl ⟨by rfl, ?_⟩) (by assumption) ?_
        rotate_left
        · (intro w hSw; (try dsimp only at hSw); go_simp; try with_reducible rfl)
        simp only [Act.put, List.setIfInBounds_toArray, List.set_cons_zero, List.set_cons_succ]
        refine wpAnyH_take (i := 6) (oi := { dst := some 52, op := Op.move (Operand.tmp 1), type := 3, pos := "pager.go:239", after := #[], guard := none }) (v := ?_) rfl (by kernel_rfl) (by kernel_rfl) (by kernel_rfl) (fun _ _ _ h => h) (Or.inl ⟨by rfl, ?_⟩) (by assumption) ?_
        rotate_left
        · (intro w hSw; (try dsimp only at hSw); go_simp; try with_reducible rfl)
        simp only [Act.put, List.setIfInBounds_toArray, List.set_cons_zero, List.set_cons_succ]
        refine wpAnyH_take (i := 7) (oi := { dst := some 53, op := Op.move (Operand.tmp 2), type := 2, pos := "pager.go:239", after := #[], guard := none }) (v := ?_) rfl (by kernel_rfl) (by kernel_rfl) (by kernel_rfl) (fun _ _ _ h => h) (Or.inl ⟨by rfl, ?_⟩) (by assumption) ?_
        rotate_left
        · (intro w hSw; (try dsimp only at hSw); go_simp; try with_reducible rfl)
        simp only [Act.put, List.setIfInBounds_toArray, List.set_cons_zero, List.set_cons_succ]
        refine wpAnyH_take (i := 8) (oi := { dst := some 54, op := Op.move (Operand.tmp 3), type := 22, pos := "pager.go:239", after := #[], guard := none }) (v := ?_) rfl (by kernel_rfl) (by kernel_rfl) (by kernel_rfl) (fun _ _ _ h => h) (Or.inl ⟨by rfl, ?_⟩) (by assumption) ?_
        rotate_left
        · (intro w hSw; (try dsimp only at hSw); go_simp; try with_reducible rfl)
        simp only [Act.put, List.setIfInBounds_toArray, List.set_cons_zero, List.set_cons_succ]
        refine wpAnyH_ready (rs := [9, 11]) (by kernel_rfl) (by simp) ?_
        refine AllReadyH.cons (o := { dst := some 55, op := Op.call { callee := Callee.value (Operand.func 86), args := #[Operand.tmp 54], argTypes := #[22] }, type := 22, pos := "pager.go:239", after := #[{ on := 8, ground := Ground.data }], guard := none }) rfl (fun K hK => ?_) (AllReadyH.cons (o := { dst := some 11, op := Op.alloc 95, type := 0, pos := "pager.go:239", after := #[], guard := none }) rfl (fun K hK => ?_) AllReadyH.nil)
        ·
          go_simp
          refine (KLh.out _ mdr).mono ?_
          rintro r wa ⟨a', c', rfl, hoa, ma0, hka⟩
          have ma := mdr.trans' ma0
          try simp only []
          refine hK.out _ _ (CS _ ma) (fun _ => ?_)
          clear hK K
          try simp only [Act.put, List.setIfInBounds_toArray, List.set_cons_zero, List.set_cons_succ]
          refine wpAnyH_take (i := 10) (oi := { dst := some 56, op := Op.build 95 #[(0, Operand.tmp 51), (1, Operand.tmp 52), (2, Operand.tmp 53), (3, Operand.tmp 55)], type := 95, pos := "pager.go:239", after := #[{ on := 5, ground := Ground.data }, { on := 6, ground := Ground.data }, { on := 7, ground := Ground.data }, { on := 9, ground := Ground.data }], guard := none }) (v := ?_) rfl (by kernel_rfl) (by kernel_rfl) (by kernel_rfl) (fun _ _ _ h => h) (Or.inl ⟨by rfl, ?_⟩) (by assumption) ?_
          rotate_left
          · (intro w hSw; (try dsimp only at hSw); go_simp; try with_reducible rfl)
          simp only [Act.put, List.setIfInBounds_toArray, List.set_cons_zero, List.set_cons_succ]
          refine wpAnyH_ready (rs := [11]) (by kernel_rfl) (by simp) ?_
          refine AllReadyH.cons (o := { dst := some 11, op := Op.alloc 95, type := 0, pos := "pager.go:239", after := #[], guard := none }) rfl (fun K hK => ?_) AllReadyH.nil
          go_simp
          try simp only []
          refine hK.out _ _ (CS _ (ma.trans' (Mod.alloc _ _ _))) (fun _ => ?_)
          clear hK K
          try simp only [Act.put, List.setIfInBounds_toArray, List.set_cons_zero, List.set_cons_succ]
          refine wpAnyH_ready (rs := [12]) (by kernel_rfl) (by simp) ?_
          refine AllReadyH.cons (o := { dst := none, op := Op.store 95 (Operand.tmp 11) (Operand.tmp 56), type := 0, pos := "pager.go:239", after := #[{ on := 11, ground := Ground.data }, { on := 10, ground := Ground.data }, { on := 9, ground := Ground.chain }, { on := 0, ground := Ground.phase }, { on := 1, ground := Ground.phase }, { on := 2, ground := Ground.phase }, { on := 3, ground := Ground.phase }, { on := 4, ground := Ground.phase }, { on := 5, ground := Ground.phase }, { on := 6, ground := Ground.phase }, { on := 7, ground := Ground.phase }, { on := 8, ground := Ground.phase }, { on := 9, ground := Ground.phase }, { on := 10, ground := Ground.phase }, { on := 11, ground := Ground.phase }], guard := none }) rfl (fun K hK => ?_) AllReadyH.nil
          go_simp
          try simp only []
          refine hK.out _ _ (CS _ (ma.trans' (Mod.alloc _ _ _))) (fun _ => ?_)
          clear hK K
          try simp only [Act.put, List.setIfInBounds_toArray, List.set_cons_zero, List.set_cons_succ]
          refine wpAnyH_done (by kernel_rfl) ?_ _
          go_wp2_with fail
          go_meet
          have mb : Mod (fun _ => False) W1 _ := ma.trans' (Mod.alloc _ _ (.cells #[.int .i64 (G : Int), .int .i64 page, .int .i64 (nx : Int), .slice a' b.length c'] 95))
          have hz := ma.size
          have hz1 := Z1.out
          have hz2 := mdr.size
          exact ⟨_, a', c', rfl, M1.out.trans' mb, mb.obj HBX.out id, by omega, heap_alloc_new _ _, hoa.mod (Mod.alloc _ _ _) (fun _ _ => id), fun k hk => by have := hka k hk; omega⟩
        ·
          go_simp
          try simp only []
          refine hK.out _ _ (CS _ (mdr.trans' (Mod.alloc _ _ _))) (fun _ => ?_)
          clear hK K
          try simp only [Act.put, List.setIfInBounds_toArray, List.set_cons_zero, List.set_cons_succ]
          refine wpAnyH_ready (rs := [9]) (by kernel_rfl) (by simp) ?_
          refine AllReadyH.cons (o := { dst := some 55, op := Op.call { callee := Callee.value (Operand.func 86), args := #[Operand.tmp 54], argTypes := #[22] }, type := 22, pos := "pager.go:239", after := #[{ on := 8, ground := Ground.data }], guard := none }) rfl (fun K hK => ?_) AllReadyH.nil
          rw [← HZ.out]
          go_simp
          refine (KLh.out _ mzd).mono ?_
          rintro r wa ⟨a', c', rfl, hoa, ma0, hka⟩
          have ma := mzd.trans' ma0
          have kz := ma0.obj KZ.out id
          have hza := ma0.size
          have cc2 := fun j => cell_of_row wa W1.heap.size j _ 95 (0, 0) kz
          have e0 := cc2 0
          have e1 := cc2 1
          have e2 := cc2 2
          have e3 := cc2 3
          have g0 := thaw_of (i := 0) kz
          have g1 := thaw_of (i := 1) kz
          have g2 := thaw_of (i := 2) kz
          have g3 := thaw_of (i := 3) kz
          simp only [List.getElem?_toArray, List.getElem?_cons_zero, List.getElem?_cons_succ] at e0 e1 e2 e3
          have KZ2 := Lib.hid kz
          clear cc2 kz
          try simp only []
          refine hK.out _ _ (CS _ ma) (fun _ => ?_)
          clear hK K
          try simp only [Act.put, List.setIfInBounds_toArray, List.set_cons_zero, List.set_cons_succ]
          refine wpAnyH_take (i := 10) (oi := { dst := some 56, op := Op.build 95 #[(0, Operand.tmp 51), (1, Operand.tmp 52), (2, Operand.tmp 53), (3, Operand.tmp 55)], type := 95, pos := "pager.go:239", after := #[{ on := 5, ground := Ground.data }, { on := 6, ground := Ground.data }, { on := 7, ground := Ground.data }, { on := 9, ground := Ground.data }], guard := none }) (v := ?_) rfl (by kernel_rfl) (by kernel_rfl) (by kernel_rfl) (fun _ _ _ h => h) (Or.inl ⟨by rfl, ?_⟩) (by assumption) ?_
          rotate_left
          · (intro w hSw; (try dsimp only at hSw); go_simp; try with_reducible rfl)
          simp only [Act.put, List.setIfInBounds_toArray, List.set_cons_zero, List.set_cons_succ]
          refine wpAnyH_ready (rs := [12]) (by kernel_rfl) (by simp) ?_
          refine AllReadyH.cons (o := { dst := none, op := Op.store 95 (Operand.tmp 11) (Operand.tmp 56), type := 0, pos := "pager.go:239", after := #[{ on := 11, ground := Ground.data }, { on := 10, ground := Ground.data }, { on := 9, ground := Ground.chain }, { on := 0, ground := Ground.phase }, { on := 1, ground := Ground.phase }, { on := 2, ground := Ground.phase }, { on := 3, ground := Ground.phase }, { on := 4, ground := Ground.phase }, { on := 5, ground := Ground.phase }, { on := 6, ground := Ground.phase }, { on := 7, ground := Ground.phase }, { on := 8, ground := Ground.phase }, { on := 9, ground := Ground.phase }, { on := 10, ground := Ground.phase }, { on := 11, ground := Ground.phase }], guard := none }) rfl (fun K hK => ?_) AllReadyH.nil
          go_simp
          try simp only []
          refine hK.out _ _ (CS _ (ma.trans (mod4 (F := fun k => k = W1.heap.size) wa W1.heap.size rfl _ _ _ _) (fun k hk e => by omega))) (fun _ => ?_)
          clear hK K
          try simp only [Act.put, List.setIfInBounds_toArray, List.set_cons_zero, List.set_cons_succ]
          refine wpAnyH_done (by kernel_rfl) ?_ _
          go_wp2_with fail
          go_meet
          have k5 := set4 KZ2.out (.int .i64 (G : Int)) (.int .i64 page) (.int .i64 (nx : Int)) (.slice a' b.length c')
          have m5 := mod4 (F := fun k => k = W1.heap.size) wa W1.heap.size rfl (.int .i64 (G : Int)) (.int .i64 page) (.int .i64 (nx : Int)) (.slice a' b.length c')
          have hz1 := Z1.out
          have hz2 := ZZ.out
          have hz3 : Z.heap.size ≤ Z.drew.heap.size := (Mod.drew (fun _ => False) Z).size
          exact ⟨W1.heap.size, a', c', rfl, (M1.out.trans' ma).trans m5 (fun k hk e => by omega), m5.obj (ma.obj HBX.out id) (by omega), by omega, k5, hoa.mod m5 (fun k hk e => by have := hka k hk; omega), fun k hk => by have := hka k hk; omega⟩

      case rest =>
        obtain ⟨kr, a', c', rfl, hfl⟩ := hcut
        generalize wc = wr at *
        have hX0 : FX wr B B2 q p vm P F D wr := ⟨HP.out.mod hfl.m (fun _ _ => id), ⟨F, HD.out.mod hfl.m (fun _ _ => id), fun k hk => .inl hk⟩, Mod.refl _ _, ⟨Nat.lt_of_lt_of_le hqw hfl.m.size, hqF⟩, fun k hk => ⟨Nat.lt_of_lt_of_le (World.ownsRow.lt HP.out.mt k hk).2 hfl.m.size, HMF.out k hk⟩⟩
        have KC : ∀ (W : World) (D' : Dsk), FX wr B B2 q p vm P F D' W → W.cell? ⟨k0, 0, none⟩ = some (.pointer (some ⟨q, 0, none⟩)) ∧ W.cell? ⟨q, 0, none⟩ = some (.pointer (some ⟨p, 0, none⟩)) ∧ W.cell? ⟨q, 1, none⟩ = some (.int .i64 (P.frm : Int)) ∧
            W.cell? ⟨kr, 0, none⟩ = some (.int .i64 (G : Int)) ∧ W.cell? ⟨kr, 1, none⟩ = some (.int .i64 page) ∧ W.cell? ⟨kr, 2, none⟩ = some (.int .i64 (nx : Int)) ∧ W.cell? ⟨kr, 3, none⟩ = some (.slice a' b.length c') := fun W D' h => by
          have hF := HFW.out
          have hlt := hfl.lt
          have k1 : Boxed W k0 93 (.pointer (some ⟨q, 0, none⟩)) := h.m.obj hfl.bx (fun e => by have := hF _ e; omega)
          have hc := fun j => cell_of_row W kr j _ 95 (0, 0) (h.m.obj hfl.rt (fun e => by have := hF _ e; omega))
          exact ⟨k1.cell, h.pg.head.1, h.pg.head.2.1, hc 0, hc 1, hc 2, hc 3⟩
        have HC := Lib.hid KC
        have HFL := Lib.hid hfl
        have HX0 := Lib.hid hX0
        obtain ⟨c1, hc1⟩ : ∃ c1, c1 = D.whySync := ⟨_, rfl⟩
        obtain ⟨x0, x1, -⟩ := KC _ _ hX0
        obtain ⟨F1, hd1, hup⟩ := hX0.turn
        have KS := hd1.sync
        rw [← hc1] at KS
        have KS2 : Calls Try.prog 43 #[.pointer (some ⟨p, 0, none⟩)] wr fun e w' => e = .returned (.int .i64 c1) ∧ FX wr B B2 q p vm P F D.sync w' := KS.mono fun e w' ⟨h1, h2⟩ => ⟨h1, hup _ _ h2⟩
        have HKS := Lib.hid KS2
        have HC1 := Lib.hid hc1
        clear hfl hX0 KC KS KS2 hd1 hup hc1
        go_wp2_with fail
        refine HKS.out.mono ?_
        rintro e w2 ⟨rfl, hX⟩
        clear HKS x0 x1
        obtain ⟨y0, y1, y2, y3, y4, y5, y6⟩ := HC.out _ _ hX
        have t5 := hX.pg.tail.2.2.2.2
        have f5 := thaw_of (i := 4103) hX.pg.at_
        by_cases h1 : c1 = 0
        · subst h1
          obtain ⟨gm, hgm⟩ : ∃ gm, gm = G % 2 := ⟨_, rfl⟩
          have hgm2 : gm < 2 := by omega
          have wt : (G : Int).tmod 2 = (gm : Int) := by rw [hgm]; exact Int.ofNat_tmod G 2
          have hfit := hwf.fit
          have htop := hwf.top
          have wm : IntKind.i64.wrap (gm : Int) = (gm : Int) := IntWalk.i64_in _ (by omega)
          have ws : IntKind.i64.wrap ((P.frm : Int) + (gm : Int)) = (P.frm : Int) + (gm : Int) := IntWalk.i64_in _ (by omega)
          obtain ⟨s, hs⟩ : ∃ s, s = slotB ⟨G, page, nx, b⟩ := ⟨_, rfl⟩
          have hsl : s.length = 256 := by rw [hs]; exact slotB_length _ HOK.out
          obtain ⟨c2, hc2⟩ : ∃ c2, c2 = D.sync.why ((P.frm : Int) + (gm : Int)) s := ⟨_, rfl⟩
          obtain ⟨D2, hD2⟩ : ∃ D2, D2 = D.sync.write ((P.frm : Int) + (gm : Int)) s := ⟨_, rfl⟩
          have hoo := HOO.out
          rw [flipD_ok _ _ HC1.out.symm] at hoo
          rw [← hs, show ((P.frm + G % 2 : Nat) : Int) = (P.frm : Int) + (gm : Int) by rw [hgm]; push_cast; rfl, ← hc2, ← hD2] at hoo
          replace HOO := Lib.hid hoo
          have KSL : ∀ w', Mod (fun _ => False) w2 w' → Calls Try.prog 111 #[.agg #[.int .i64 (G : Int), .int .i64 page, .int .i64 (nx : Int), .slice a' b.length c']] w' fun e w'' => ∃ av cv, e = .returned (.slice av 256 cv) ∧ BytesAt w'' av s ∧ Mod (fun _ => False) w' w'' := fun w' hm => by
            have ho := (HFL.out.ow.mod (hX.m.trans hm (fun _ _ e => e.elim) : Mod F wr w') (fun k hk e => by have := HFW.out _ e; have := (HFL.out.ne k hk).1; omega))
            obtain ⟨a2, c2', e2, -, -, hbv⟩ := ho.shape
            cases e2
            have hz : a' = none → c' = 0 := fun e => by
              subst e
              rcases ho.2 with ⟨h1, h2⟩ | ⟨g', cap, cur, h1, -⟩
              · injection h1
              · injection h1 with h3; cases h3
            refine (slot_any ⟨G, page, nx, b⟩ HOK.out a' b.length c' rfl hz hbv w'.heap.size (Nat.le_refl _)).mono ?_
            rintro e w'' ⟨v, rfl, h2, h3, -⟩
            rw [← hs] at h2
            obtain ⟨av, cv, rfl, -, -, hb2⟩ := h2.shape
            rw [hsl]
            exact ⟨av, cv, rfl, hb2, h3⟩
          have hlim2 : D.sync.l.length + 1 ≤ 1048576 := by
            unfold Dsk.sync
            split
            · exact hlim
            split
            · exact hlim
            · show 0 + 1 ≤ _; omega
          have KW : ∀ w' av cv, Mod (fun _ => False) w2 w' → BytesAt w' av s → Calls Try.prog 40 #[.pointer (some ⟨p, 0, none⟩), .int .i64 ((P.frm : Int) + (gm : Int)), .slice av 256 cv] w' fun e w'' => e = .returned (.int .i64 c2) ∧ FX wr B B2 q p vm P F D2 w'' := fun w' av cv hm hb => by
            obtain ⟨F', h1, h2⟩ := (hX.still hm).turn
            rw [hc2, hD2]
            exact (h1.write hlim2 ((P.frm : Int) + (gm : Int)) av s 256 cv hsl hb (by omega)).mono fun e w'' ⟨he, ht⟩ => ⟨he, h2 _ _ ht⟩
          have CS : ∀ w' D', FX wr B B2 q p vm P F D' w' → w'.cell? ⟨k0, 0, none⟩ = some (.pointer (some ⟨q, 0, none⟩)) ∧ w'.cell? ⟨q, 0, none⟩ = some (.pointer (some ⟨p, 0, none⟩)) ∧ w'.cell? ⟨q, 1, none⟩ = some (.int .i64 (P.frm : Int)) ∧
            w'.cell? ⟨kr, 0, none⟩ = some (.int .i64 (G : Int)) ∧ w'.cell? ⟨kr, 1, none⟩ = some (.int .i64 page) ∧ w'.cell? ⟨kr, 2, none⟩ = some (.int .i64 (nx : Int)) ∧ w'.cell? ⟨kr, 3, none⟩ = some (.slice a' b.length c') := fun w' D' h => HC.out _ _ h
          have HS := Lib.hid hs
          have HSL := Lib.hid hsl
          have HGM := Lib.hid hgm
          have HC2 := Lib.hid hc2
          have HD2 := Lib.hid hD2
          have KSh := Lib.hid KSL
          have KWh := Lib.hid KW
          have mdr2 : Mod (fun _ => False) w2 w2.drew := Mod.drew _ _
          have hXd := hX.still mdr2
          have HX := Lib.hid hX
          have WT := Lib.hid wt
          have WS := Lib.hid ws
          clear hs hsl hgm hc2 hD2 KSL KW hoo hX HC y0 y1 y2 y3 y4 y5 y6 t5 f5 hlim2
          go_upto_region 14 with fail
          go_cut [12] (fun v12 wx => v12 = .int .i64 c2 ∧ FX wr B B2 q p vm P F D2 wx)
          case first =>
            have wt := WT.out
            have ws := WS.out
            refine wp_region_held_drew (S := fun w' => w'.cell? ⟨k0, 0, none⟩ = some (.pointer (some ⟨q, 0, none⟩)) ∧ w'.cell? ⟨q, 0, none⟩ = some (.pointer (some ⟨p, 0, none⟩)) ∧ w'.cell? ⟨q, 1, none⟩ = some (.int .i64 (P.frm : Int)) ∧ w'.cell? ⟨kr, 0, none⟩ = some (.int .i64 (G : Int)) ∧ w'.cell? ⟨kr, 1, none⟩ = some (.int .i64 page) ∧ w'.cell? ⟨kr, 2, none⟩ = some (.int .i64 (nx : Int)) ∧ w'.cell? ⟨kr, 3, none⟩ = some (.slice a' b.length c')) (by kernel_rfl) (CS _ _ hXd) (fun hHeld => ?_)
            refine wpAnyH_take (i := 0) (oi := { dst := some 64, op := Op.load 93 (Operand.tmp 5), type := 93, pos := "pager.go:242", after := #[], guard := none }) (v := ?_) rfl (by kernel_rfl) (by kernel_rfl) (by kernel_rfl) (fun _ _ _ h => h) (Or.inl ⟨by rfl, ?_⟩) (by assumption) ?_
            rotate_left
            · (intro w hSw; (try dsimp only at hSw); go_simp; try with_reducible rfl)
            simp only [Act.put, List.setIfInBounds_toArray, List.set_cons_zero, List.set_cons_succ]
            refine wpAnyH_take (i := 1) (oi := { dst := some 65, op := Op.nilCheck (Operand.tmp 64), type := 0, pos := "pager.go:242", after := #[{ on := 0, ground := Ground.data }], guard := none }) (v := ?_) rfl (by kernel_rfl) (by kernel_rfl) (by kernel_rfl) (fun _ _ _ h => h) (Or.inl ⟨by rfl, ?_⟩) (by assumption) ?_
            rotate_left
            · (intro w hSw; (try dsimp only at hSw); go_simp; try with_reducible rfl)
            simp only [Act.put, List.setIfInBounds_toArray, List.set_cons_zero, List.set_cons_succ]
            refine wpAnyH_take (i := 2) (oi := { dst := some 66, op := Op.fieldAddr 153 (Operand.tmp 65) 0, type := 0, pos := "pager.go:242", after := #[{ on := 1, ground := Ground.data }], guard := none }) (v := ?_) rfl (by kernel_rfl) (by kernel_rfl) (by kernel_rfl) (fun _ _ _ h => h) (Or.inl ⟨by rfl, ?_⟩) (by assumption) ?_
            rotate_left
            · (intro w hSw; (try dsimp only at hSw); go_simp; try with_reducible rfl)
            simp only [Act.put, List.setIfInBounds_toArray, List.set_cons_zero, List.set_cons_succ]
            refine wpAnyH_take (i := 3) (oi := { dst := some 67, op := Op.load 40 (Operand.tmp 66), type := 40, pos := "pager.go:242", after := #[{ on := 2, ground := Ground.data }], guard := none }) (v := ?_) rfl (by kernel_rfl) (by kernel_rfl) (by kernel_rfl) (fun _ _ _ h => h) (Or.inl ⟨by rfl, ?_⟩) (by assumption) ?_
            rotate_left
            · (intro w hSw; (try dsimp only at hSw); go_simp; try with_reducible rfl)
            simp only [Act.put, List.setIfInBounds_toArray, List.set_cons_zero, List.set_cons_succ]
            refine wpAnyH_take (i := 4) (oi := { dst := some 68, op := Op.load 93 (Operand.tmp 5), type := 93, pos := "pager.go:242", after := #[], guard := none }) (v := ?_) rfl (by kernel_rfl) (by kernel_rfl) (by kernel_rfl) (fun _ _ _ h => h) (Or.inl ⟨by rfl, ?_⟩) (by assumption) ?_
            rotate_left
            · (intro w hSw; (try dsimp only at hSw); go_simp; try with_reducible rfl)
            simp only [Act.put, List.setIfInBounds_toArray, List.set_cons_zero, List.set_cons_succ]
            refine wpAnyH_take (i := 5) (oi := { dst := some 69, op := Op.nilCheck (Operand.tmp 68), type := 0, pos := "pager.go:242", after := #[{ on := 4, ground := Ground.data }], guard := none }) (v := ?_) rfl (by kernel_rfl) (by kernel_rfl) (by kernel_rfl) (fun _ _ _ h => h) (Or.inl ⟨by rfl, ?_⟩) (by assumption) ?_
            rotate_left
            · (intro w hSw; (try dsimp only at hSw); go_simp; try with_reducible rfl)
            simp only [Act.put, List.setIfInBounds_toArray, List.set_cons_zero, List.set_cons_succ]
            refine wpAnyH_take (i := 6) (oi := { dst := some 70, op := Op.fieldAddr 153 (Operand.tmp 69) 1, type := 0, pos := "pager.go:242", after := #[{ on := 5, ground := Ground.data }], guard := none }) (v := ?_) rfl (by kernel_rfl) (by kernel_rfl) (by kernel_rfl) (fun _ _ _ h => h) (Or.inl ⟨by rfl, ?_⟩) (by assumption) ?_
            rotate_left
            · (intro w hSw; (try dsimp only at hSw); go_simp; try with_reducible rfl)
            simp only [Act.put, List.setIfInBounds_toArray, List.set_cons_zero, List.set_cons_succ]
            refine wpAnyH_take (i := 7) (oi := { dst := some 71, op := Op.load 3 (Operand.tmp 70), type := 3, pos := "pager.go:242", after := #[{ on := 6, ground := Ground.data }], guard := none }) (v := ?_) rfl (by kernel_rfl) (by kernel_rfl) (by kernel_rfl) (fun _ _ _ h => h) (Or.inl ⟨by rfl, ?_⟩) (by assumption) ?_
            rotate_left
            · (intro w hSw; (try dsimp only at hSw); go_simp; try with_reducible rfl)
            simp only [Act.put, List.setIfInBounds_toArray, List.set_cons_zero, List.set_cons_succ]
            refine wpAnyH_take (i := 8) (oi := { dst := some 72, op := Op.fieldAddr 95 (Operand.tmp 11) 0, type := 0, pos := "pager.go:242", after := #[], guard := none }) (v := ?_) rfl (by kernel_rfl) (by kernel_rfl) (by kernel_rfl) (fun _ _ _ h => h) (Or.inl ⟨by rfl, ?_⟩) (by assumption) ?_
            rotate_left
            · (intro w hSw; (try dsimp only at hSw); go_simp; try with_reducible rfl)
            simp only [Act.put, List.setIfInBounds_toArray, List.set_cons_zero, List.set_cons_succ]
            refine wpAnyH_take (i := 9) (oi := { dst := some 73, op := Op.load 2 (Operand.tmp 72), type := 2, pos := "pager.go:242", after := #[{ on := 8, ground := Ground.data }], guard := none }) (v := ?_) rfl (by kernel_rfl) (by kernel_rfl) (by kernel_rfl) (fun _ _ _ h => h) (Or.inl ⟨by rfl, ?_⟩) (by assumption) ?_
            rotate_left
            · (intro w hSw; (try dsimp only at hSw); go_simp; try with_reducible rfl)
            simp only [Act.put, List.setIfInBounds_toArray, List.set_cons_zero, List.set_cons_succ]
            refine wpAnyH_take (i := 10) (oi := { dst := some 74, op := Op.binOp BinOp.rem 2 (Operand.tmp 73) (Operand.const (Value.int IntKind.i64 2)) 2, type := 2, pos := "pager.go:242", after := #[{ on := 9, ground := Ground.data }], guard := none }) (v := ?_) rfl (by kernel_rfl) (by kernel_rfl) (by kernel_rfl) (fun _ _ _ h => h) (Or.inl ⟨by rfl, ?_⟩) (by assumption) ?_
            rotate_left
            · (intro w hSw; (try dsimp only at hSw); go_simp; try with_reducible rfl)
            simp only [Act.put, List.setIfInBounds_toArray, List.set_cons_zero, List.set_cons_succ]
            refine wpAnyH_take (i := 11) (oi := { dst := some 75, op := Op.binOp BinOp.add 3 (Operand.tmp 71) (Operand.tmp 74) 3, type := 3, pos := "pager.go:242", after := #[{ on := 7, ground := Ground.data }, { on := 10, ground := Ground.data }], guard := none }) (v := ?_) rfl (by kernel_rfl) (by kernel_rfl) (by kernel_rfl) (fun _ _ _ h => h) (Or.inl ⟨by rfl, ?_⟩) (by assumption) ?_
            rotate_left
            · (intro w hSw; (try dsimp only at hSw); go_simp; try with_reducible rfl)
            simp only [Act.put, List.setIfInBounds_toArray, List.set_cons_zero, List.set_cons_succ]
            refine wpAnyH_take (i := 12) (oi := { dst := some 76, op := Op.load 95 (Operand.tmp 11), type := 95, pos := "pager.go:242", after := #[], guard := none }) (v := ?_) rfl (by kernel_rfl) (by kernel_rfl) (by kernel_rfl) (fun _ _ _ h => h) (Or.inl ⟨by rfl, ?_⟩) (by assumption) ?_
            rotate_left
            · (intro w hSw; (try dsimp only at hSw); go_simp; try with_reducible rfl)
            simp only [Act.put, List.setIfInBounds_toArray, List.set_cons_zero, List.set_cons_succ]
            refine wpAnyH_ready (rs := [13]) (by kernel_rfl) (by simp) ?_
            refine AllReadyH.cons (o := { dst := some 77, op := Op.call { callee := Callee.value (Operand.func 111), args := #[Operand.tmp 76], argTypes := #[95] }, type := 22, pos := "pager.go:242", after := #[{ on := 12, ground := Ground.data }], guard := none }) rfl (fun K hK => ?_) AllReadyH.nil
            go_simp
            refine (KSh.out _ mdr2).mono ?_
            rintro r wa ⟨av, cv, rfl, hbv, ma0⟩
            have ma := mdr2.trans' ma0
            try simp only []
            refine hK.out _ _ (CS _ _ (hXd.still ma0)) (fun _ => ?_)
            clear hK K
            try simp only [Act.put, List.setIfInBounds_toArray, List.set_cons_zero, List.set_cons_succ]
            refine wpAnyH_ready (rs := [14]) (by kernel_rfl) (by simp) ?_
            refine AllReadyH.cons (o := { dst := some 78, op := Op.call { callee := Callee.value (Operand.func 40), args := #[Operand.tmp 67, Operand.tmp 75, Operand.tmp 77], argTypes := #[40, 3, 22] }, type := 32, pos := "pager.go:242", after := #[{ on := 3, ground := Ground.data }, { on := 11, ground := Ground.data }, { on := 13, ground := Ground.data }, { on := 13, ground := Ground.chain }], guard := none }) rfl (fun K hK => ?_) AllReadyH.nil
            go_simp
            refine (KWh.out _ av cv ma hbv).mono ?_
            rintro r wb ⟨rfl, hX2⟩
            try simp only []
            refine hK.out _ _ (CS _ _ hX2) (fun _ => ?_)
            clear hK K
            try simp only [Act.put, List.setIfInBounds_toArray, List.set_cons_zero, List.set_cons_succ]
            refine wpAnyH_take (i := 15) (oi := { dst := some 12, op := Op.assign (Operand.tmp 78), type := 32, pos := "pager.go:242", after := #[{ on := 14, ground := Ground.data }, { on := 14, ground := Ground.chain }, { on := 0, ground := Ground.phase }, { on := 1, ground := Ground.phase }, { on := 2, ground := Ground.phase }, { on := 3, ground := Ground.phase }, { on := 4, ground := Ground.phase }, { on := 5, ground := Ground.phase }, { on := 6, ground := Ground.phase }, { on := 7, ground := Ground.phase }, { on := 8, ground := Ground.phase }, { on := 9, ground := Ground.phase }, { on := 10, ground := Ground.phase }, { on := 11, ground := Ground.phase }, { on := 12, ground := Ground.phase }, { on := 13, ground := Ground.phase }, { on := 14, ground := Ground.phase }], guard := none }) (v := ?_) rfl (by kernel_rfl) (by kernel_rfl) (by kernel_rfl) (fun _ _ _ h => h) (Or.inl ⟨by rfl, ?_⟩) (by assumption) ?_
            rotate_left
            · (intro w hSw; (try dsimp only at hSw); go_simp; try with_reducible rfl)
            simp only [Act.put, List.setIfInBounds_toArray, List.set_cons_zero, List.set_cons_succ]
            refine wpAnyH_done (by kernel_rfl) ?_ _
            go_wp2_with fail
            go_meet
            exact ⟨rfl, hX2⟩

          case rest =>
            obtain ⟨rfl, hX2⟩ := hcut
            obtain ⟨y0, y1, y2, y3, y4, y5, y6⟩ := CS _ _ hX2
            have t5 := hX2.pg.tail.2.2.2.2
            have f5 := thaw_of (i := 4103) hX2.pg.at_
            have HCS := Lib.hid CS
            clear CS KSh KWh hXd mdr2 wt ws
            by_cases h2 : c2 = 0
            · subst h2
              have hoo := HOO.out
              simp only [ne_eq, not_true_eq_false, if_false] at hoo
              obtain ⟨c3, hc3⟩ : ∃ c3, c3 = D2.whySync := ⟨_, rfl⟩
              rw [← hc3] at hoo
              obtain ⟨F1, hd1, hup⟩ := hX2.turn
              have KS2 : Calls Try.prog 43 #[.pointer (some ⟨p, 0, none⟩)] wc fun e w' => e = .returned (.int .i64 c3) ∧ FX wr B B2 q p vm P F D2.sync w' := by
                rw [hc3]
                exact hd1.sync.mono fun e w' ⟨h1, h2⟩ => ⟨h1, hup _ _ h2⟩
              have HKS := Lib.hid KS2
              have HX2 := Lib.hid hX2
              replace HOO := Lib.hid hoo
              have HC3 := Lib.hid hc3
              clear hX2 hd1 hup KS2 t5 f5 hoo hc3
              go_wp2_with fail
              refine HKS.out.mono ?_
              rintro e w5 ⟨rfl, hX5⟩
              clear HKS y0 y1 y2 y3 y4 y5 y6
              obtain ⟨y0, y1, y2, y3, y4, y5, y6⟩ := HCS.out _ _ hX5
              by_cases h3 : c3 = 0
              · subst h3
                have hoo := HOO.out
                rw [if_pos rfl] at hoo
                obtain ⟨t0, t1, t2, t3, -⟩ := hX5.pg.tail
                have g0 := thaw_of (i := 4099) hX5.pg.at_
                have g1 := thaw_of (i := 4100) hX5.pg.at_
                have g2 := thaw_of (i := 4101) hX5.pg.at_
                have g3 := thaw_of (i := 4102) hX5.pg.at_
                have hF := HFW.out
                have ho5 : OwnB w5 B (.slice a' b.length c') b := (HFL.out.ow.mod hX5.m (fun k hk e => by have := hF _ e; have := (HFL.out.ne k hk).1; omega)).weaken (by have := HP.out.hq; omega)
                have hR := hX5.pg.setRoot ⟨G, page, nx, b⟩ ho5
                have m6 := mod4q (F := fun k => k = q) w5 q rfl (.int .i64 (G : Int)) (.int .i64 page) (.int .i64 (nx : Int)) (.slice a' b.length c')
                have hl5 := (HL0.out.mod HFL.out.m (fun _ _ _ => id)).mod hX5.m (fun x hx hne => (HLA.out x hx hne).2)
                have hl6 := hl5.mod m6 (fun x hx hne => (HLA.out x hx hne).1)
                have hset := pset_any hR a l l.length cap rfl hll hl6 (fun x hx hne => (HLA.out x hx hne).1) HALL.out
                have HSET := Lib.hid hset
                have HX5 := Lib.hid hX5
                have M6 := Lib.hid m6
                replace HOO := Lib.hid hoo
                clear hset hX5 hR m6 hl5 hl6 ho5 hoo hF
                go_wp2_with fail
                refine HSET.out.mono ?_
                rintro e w7 ⟨rfl, hp7, m7⟩
                simp only [HDD.out] at hp7
                have HP7 := Lib.hid hp7
                have M7 := Lib.hid m7
                clear hp7 m7 HSET y0 y1 y2 y3 y4 y5 y6 t0 t1 t2 t3 g0 g1 g2 g3
                go_wp2
                go_ret
                obtain ⟨F', e1, e2⟩ := HX5.out.dk
                have hF := HFW.out
                have hzr := HFL.out.m.size
                have m67 := M6.out.trans' M7.out
                rw [HOO.out]
                refine ⟨rfl, _, F', HP7.out, e1.mod m67 (fun k hk e => ?_), fun k hk => (e2 k hk).imp id (fun e => by omega), fun k hk => ?_, ((HFL.out.m.mono (fun _ _ e => e.elim)).trans' (HX5.out.m.mono (fun _ _ e => .inr e))).trans' (m67.mono (fun _ _ e => .inl e))⟩
                · subst e
                  rcases e2 _ hk with e | e
                  · exact hqF e
                  · omega
                · have h1 := HFL.out.ne k hk
                  have h2 := (World.ownsRow.lt HFL.out.ow k hk).2
                  refine ⟨.inr (by omega), fun e => ?_⟩
                  rcases e2 k e with e | e
                  · have := hF k e; omega
                  · omega
              · have hoo := HOO.out
                rw [if_neg h3] at hoo
                have hb2 : (c3 != 0) = true := by simpa using h3
                have t5 := hX5.pg.tail.2.2.2.2
                have f5 := thaw_of (i := 4103) hX5.pg.at_
                have HX5 := Lib.hid hX5
                replace HOO := Lib.hid hoo
                clear hoo h3 hX5 y1 y2 y3 y4 y5 y6
                go_wp2
                go_ret
                exact HX5.out.die HFL.out.m HOO.out hqw
            · have hoo := HOO.out
              rw [if_pos h2] at hoo
              simp only at hoo
              rw [if_neg h2] at hoo
              have hb1 : (c2 == 0) = false := by simpa using h2
              have hb2 : (c2 != 0) = true := by simpa using h2
              have HX2 := Lib.hid hX2
              replace HOO := Lib.hid hoo
              clear hoo h2 hX2 y1 y2 y3 y4 y5 y6
              go_wp2
              go_ret
              exact HX2.out.die HFL.out.m HOO.out hqw
        · have hoo := HOO.out
          have hD1 : D.whySync ≠ 0 := by rw [← HC1.out]; exact h1
          rw [flipD_no _ _ hD1] at hoo
          simp only at hoo
          rw [if_neg hD1, ← HC1.out] at hoo
          have hb1 : (c1 == 0) = false := by simpa using h1
          have hb2 : (c1 != 0) = true := by simpa using h1
          have HX := Lib.hid hX
          replace HOO := Lib.hid hoo
          clear hoo h1 hD1 hX y1 y2 y3 y4 y5 y6
          go_wp2
          go_ret
          exact HX.out.die HFL.out.m HOO.out hqw
end Go.Proofs.Ytdinnkacilgmmaa
