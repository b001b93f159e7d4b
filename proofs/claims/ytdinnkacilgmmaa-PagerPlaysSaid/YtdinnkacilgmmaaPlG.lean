/- What RowPagerPlays needs, part 7. -/
import Derived.Test.YtdinnkacilgmmaaPlF
import Derived.Deep.QuietTactic
import Derived.BigQuiet
namespace Go.Proofs.Ytdinnkacilgmmaa
open Go.RowKit

def Pgr.badArgs (P : Pgr) (page next : Int) : Bool := (page != -1 && !P.there page) || decide (next < 1) || decide (1152921504606846976 < next)
/-- what Flip says before it begins -/
def Pgr.whyFlip (P : Pgr) (page next : Int) (m : List UInt8) (l : List Int) : Int :=
  if P.dead = true then 21 else if P.badArgs page next = true then 1 else if l.any P.noFlip = true then 1 else if 100 < m.length then 3 else 0
def Pgr.toFlip (P : Pgr) (page next : Int) (m : List UInt8) : Rt := ⟨P.root.gen + 1, page, next.toNat, m⟩
/-- what becomes of the disk -/
def flipD (D : Dsk) (n : Int) (s : List UInt8) : Int × Dsk :=
  if D.whySync ≠ 0 then (D.whySync, D.sync) else if D.sync.why n s ≠ 0 then (D.sync.why n s, D.sync.write n s) else ((D.sync.write n s).whySync, (D.sync.write n s).sync)
theorem flipD_no {D : Dsk} (n : Int) (s : List UInt8) (h : D.whySync ≠ 0) : flipD D n s = (D.whySync, D.sync) := by unfold flipD; rw [if_pos h]
theorem flipD_ok {D : Dsk} (n : Int) (s : List UInt8) (h : D.whySync = 0) : flipD D n s = if D.sync.why n s ≠ 0 then (D.sync.why n s, D.sync.write n s) else ((D.sync.write n s).whySync, (D.sync.write n s).sync) := by
  unfold flipD; rw [if_neg (by rw [h]; decide)]
def Pgr.flip (P : Pgr) (D : Dsk) (page next : Int) (m : List UInt8) (l : List Int) : Int × Pgr × Dsk :=
  if P.whyFlip page next m l ≠ 0 then (P.whyFlip page next m l, P, D)
  else if (flipD D ((P.frm + (P.root.gen + 1) % 2 : Nat) : Int) (slotB (P.toFlip page next m))).1 = 0 then
    (0, { P with root := P.toFlip page next m, is_ := setAll l zeros4096 }, (flipD D ((P.frm + (P.root.gen + 1) % 2 : Nat) : Int) (slotB (P.toFlip page next m))).2)
  else ((flipD D ((P.frm + (P.root.gen + 1) % 2 : Nat) : Int) (slotB (P.toFlip page next m))).1, { P with dead := true }, (flipD D ((P.frm + (P.root.gen + 1) % 2 : Nat) : Int) (slotB (P.toFlip page next m))).2)

/-- what Flip leaves -/
def FSaid (w : World) (B B2 q p : Nat) (vm : Value) (F : Nat → Prop) (o : Int × Pgr × Dsk) (e : Ending) (w' : World) : Prop :=
  e = .returned (.int .i64 o.1) ∧ ∃ vm' F', PgV w' B q p vm' o.2.1 ∧ DiskAt w' B2 p o.2.2 F' ∧ (∀ k, F' k → F k ∨ w.heap.size ≤ k) ∧ (∀ k, vm'.ownBlock = some k → (vm.ownBlock = some k ∨ w.heap.size ≤ k) ∧ ¬ F' k) ∧ Mod (fun k => k = q ∨ F k) w w'

theorem FSaid.same {w w' : World} {B B2 q p : Nat} {vm : Value} {P : Pgr} {D : Dsk} {F : Nat → Prop} {c : Int} (hp : PgV w B q p vm P) (hd : DiskAt w B2 p D F) (hmF : ∀ k, vm.ownBlock = some k → ¬ F k) (hm : Mod (fun _ => False) w w') {o : Int × Pgr × Dsk} (ho : o = (c, P, D)) :
    FSaid w B B2 q p vm F o (.returned (.int .i64 c)) w' := by
  subst ho
  exact ⟨rfl, vm, F, hp.mod hm (fun _ _ => id), hd.mod hm (fun _ _ => id), fun k hk => .inl hk, fun k hk => ⟨.inl hk, hmF k hk⟩, hm.mono (fun _ _ e => e.elim)⟩

/-- a box with a pointer, and a root in a variable -/
structure FL (w : World) (k0 q G : Nat) (page next : Int) (b : List UInt8) (kr : Nat) (a : Option Addr) (c : Nat) (W : World) : Prop where
  m : Mod (fun _ => False) w W
  bx : Boxed W k0 93 (.pointer (some ⟨q, 0, none⟩))
  lt : k0 < kr
  rt : W.heap[kr]? = some (.cells #[.int .i64 (G : Int), .int .i64 page, .int .i64 next, .slice a b.length c] 95 (0, 0))
  ow : OwnB W k0 (.slice a b.length c) b
  ne : ∀ k, (Value.slice a b.length c).ownBlock = some k → k0 < k ∧ k ≠ kr

/-- between Flip's calls of the disk -/
structure FX (wc : World) (B B2 q p : Nat) (vm : Value) (P : Pgr) (F : Nat → Prop) (D : Dsk) (W : World) : Prop where
  pg : PgV W B q p vm P
  dk : ∃ F', DiskAt W B2 p D F' ∧ ∀ k, F' k → F k ∨ wc.heap.size ≤ k
  m : Mod F wc W
  hq : q < wc.heap.size ∧ ¬ F q
  hm : ∀ k, vm.ownBlock = some k → k < wc.heap.size ∧ ¬ F k
theorem FX.still {wc W W' : World} {B B2 q p : Nat} {vm : Value} {P : Pgr} {F : Nat → Prop} {D : Dsk} (h : FX wc B B2 q p vm P F D W) (hm : Mod (fun _ => False) W W') : FX wc B B2 q p vm P F D W' := by
  obtain ⟨F', h1, h2⟩ := h.dk
  exact ⟨h.pg.mod hm (fun _ _ => id), ⟨F', h1.mod hm (fun _ _ => id), h2⟩, h.m.trans hm (fun _ _ e => e.elim), h.hq, h.hm⟩
theorem FX.turn {wc W : World} {B B2 q p : Nat} {vm : Value} {P : Pgr} {F : Nat → Prop} {D : Dsk} (h : FX wc B B2 q p vm P F D W) :
    ∃ F', DiskAt W B2 p D F' ∧ ∀ (D' : Dsk) (W' : World), Turned W B2 p F' D' W' → FX wc B B2 q p vm P F D' W' := by
  obtain ⟨F', h1, h2⟩ := h.dk
  refine ⟨F', h1, fun D' W' ⟨hm, F'', h3, h4⟩ => ⟨h.pg.mod hm (fun k hk e => ?_), ⟨F'', h3, fun k hk => ?_⟩, h.m.trans hm (fun k hk e => ?_), h.hq, h.hm⟩⟩
  · have hk' : k < wc.heap.size ∧ ¬ F k := hk.elim (fun e => e ▸ h.hq) (fun e => h.hm k e.symm)
    rcases h2 k e with e | e
    · exact hk'.2 e
    · omega
  · rcases h4 k hk with e | e
    · exact h2 k e
    · have := h.m.size; exact .inr (by omega)
  · rcases h2 k e with e | e
    · exact e
    · omega
theorem FX.die {w wc W : World} {B B2 q p : Nat} {vm : Value} {P : Pgr} {F : Nat → Prop} {D : Dsk} {c : Int} (h : FX wc B B2 q p vm P F D W) (hm : Mod (fun _ => False) w wc) {o : Int × Pgr × Dsk} (ho : o = (c, { P with dead := true }, D)) (hqw : q < w.heap.size) :
    FSaid w B B2 q p vm F o (.returned (.int .i64 c)) (W.setCell ⟨q, 4103, none⟩ (.bool true)) := by
  subst ho
  obtain ⟨F', h1, h2⟩ := h.dk
  have hz := hm.size
  have ms : Mod (fun k => k = q) W (W.setCell ⟨q, 4103, none⟩ (.bool true)) := Mod.setCell _ _ _ rfl
  refine ⟨rfl, vm, F', h.pg.setDead true, h1.mod ms (fun k hk e => ?_), fun k hk => (h2 k hk).imp id (fun e => by omega), fun k hk => ⟨.inl hk, fun e => ?_⟩, ((hm.mono (fun _ _ e => e.elim)).trans' (h.m.mono (fun _ _ e => .inr e))).trans' (ms.mono (fun _ _ e => .inl e))⟩
  · subst e
    rcases h2 _ hk with e | e
    · exact h.hq.2 e
    · have := h.hq.1; omega
  · have := h.hm k hk
    rcases h2 k e with e | e
    · exact this.2 e
    · omega

set_option maxHeartbeats 2000000 in
set_option maxRecDepth 100000 in
theorem pflip_any {w : World} {B B2 q p : Nat} {vm : Value} {P : Pgr} {D : Dsk} {F : Nat → Prop} (hp : PgV w B q p vm P) (hd : DiskAt w B2 p D F) (hwf : P.wf D) (hqF : ¬ F q) (hmF : ∀ k, vm.ownBlock = some k → ¬ F k)
    (page next : Int) (am : Option Addr) (b : List UInt8) (nm cm : Nat) (hnm : b.length = nm) (hbl : b.length ≤ 140737488355328) (ham : am = none → cm = 0) (hb : BytesAt w am b)
    (a : Option Addr) (l : List Int) (n cap : Nat) (hn : l.length = n) (hll : l.length ≤ 140737488355328) (hl : IntsAt w a l) (hla : ∀ x, a = some x → l ≠ [] → ¬ x.block = q ∧ ¬ F x.block)
    (hlim : D.l.length + 1 ≤ 1048576) (hgen : P.root.gen + 1 < 4611686018427387904) :
    Calls Try.prog 68 #[.pointer (some ⟨q, 0, none⟩), .int .i64 page, .int .i64 next, .slice am nm cm, .slice a n cap] w fun e w' => FSaid w B B2 q p vm F (P.flip D page next b l) e w' := by
  subst hnm hn
  obtain ⟨o, ho⟩ : ∃ o, o = P.flip D page next b l := ⟨_, rfl⟩
  rw [← ho]
  unfold Pgr.flip Pgr.whyFlip at ho
  have hpg : P.pages ≤ 4096 := by have := hwf.fit; have := hwf.top; omega
  obtain ⟨k0, hk0⟩ : ∃ k0, k0 = w.heap.size := ⟨_, rfl⟩
  obtain ⟨W1, hW1⟩ : ∃ W1, W1 = w.alloc (.cells #[.pointer (some ⟨q, 0, none⟩)] 93) := ⟨_, rfl⟩
  have m1 : Mod (fun _ => False) w W1 := by rw [hW1]; exact Mod.alloc _ _ _
  have bx : Boxed W1 k0 93 (.pointer (some ⟨q, 0, none⟩)) := by rw [hW1, hk0]; exact heap_alloc_new _ _
  have z1 : W1.heap.size = k0 + 1 := by rw [hW1, hk0]; simp
  have hp1 := hp.mod m1 (fun _ _ => id)
  have hl1 := hl.mod m1 (fun _ _ _ => id)
  have hb1 := hb.mod m1 (fun _ _ _ => id)
  have hd1 := hd.mod m1 (fun _ _ => id)
  have hqw := lt_of_block hp.at_
  have hFw : ∀ k, F k → k < k0 := fun k hk => by rw [hk0]; exact (hd.lt k hk).2
  have HP := Lib.hid hp
  have HD := Lib.hid hd
  have HLA := Lib.hid hla
  have HL0 := Lib.hid hl
  have HO := Lib.hid ho
  have HMF := Lib.hid hmF
  have M1 := Lib.hid m1
  have HP1 := Lib.hid hp1
  have HL1 := Lib.hid hl1
  have HB1 := Lib.hid hb1
  have HD1 := Lib.hid hd1
  have HW1 := Lib.hid hW1
  have HK0 := Lib.hid hk0
  have HFW := Lib.hid hFw
  have HBX := Lib.hid bx
  have c5 : W1.cell? ⟨q, 4103, none⟩ = some (.bool P.dead) := hp1.tail.2.2.2.2
  have x0 := bx.cell
  rw [hW1] at c5
  have Z1 := Lib.hid z1
  clear hp hd hla ho hmF hp1 hl1 hb1 hd1 hk0 hFw m1 bx hl hb hW1 z1
  cases hdd : P.dead with
  | true =>
    rw [hdd] at c5
    have ho := HO.out
    rw [hdd] at ho
    simp only [if_true] at ho
    have HO' := Lib.hid (ho : o = (21, P, D))
    clear ho hdd
    go_enter Try.func68, Try.ntmps68
    go_wp2
    go_ret
    exact FSaid.same HP.out HD.out HMF.out (Mod.alloc _ _ _) HO'.out
  | false =>
  rw [hdd] at c5
  have hoo := HO.out
  rw [hdd] at hoo
  simp only [Bool.false_eq_true, if_false] at hoo
  have HOO := Lib.hid hoo
  clear hoo HO
  go_enter Try.func68, Try.ntmps68
  go_upto_region 5 with fail
  rw [← HW1.out, ← HK0.out]
  clear c5
  have KT := there_any HP1.out page
  obtain ⟨bad, hbad⟩ : ∃ bad, bad = P.badArgs page next := ⟨_, rfl⟩
  have hoo := HOO.out
  rw [← hbad] at hoo
  replace HOO := Lib.hid hoo
  clear hoo
  unfold Pgr.badArgs at hbad
  have HBAD := Lib.hid hbad
  have HDD := Lib.hid hdd
  clear hbad hdd
  go_cut [21] (fun v21 wx => v21 = .bool bad ∧ W1 = wx)
  case first =>
    by_cases h1 : page = -1
    · have hb1 : (page != -1) = false := by rw [h1]; rfl
      have hbad := HBAD.out
      rw [hb1] at hbad
      simp only [Bool.false_and, Bool.false_or] at hbad
      replace HBAD := Lib.hid hbad
      clear hbad h1
      by_cases h2 : next < 1
      · go_wp2_with fail
        go_meet
        exact ⟨congrArg Value.bool (by rw [HBAD.out]; simp [h2]), rfl⟩
      · go_wp2_with fail
        go_meet
        exact ⟨congrArg Value.bool (by rw [HBAD.out, decide_eq_false (show ¬ next < 1 by omega)]; simp), rfl⟩
    · have hb1 : (page != -1) = true := by simpa using h1
      have hbad := HBAD.out
      rw [hb1] at hbad
      simp only [Bool.true_and] at hbad
      generalize P.there page = t at *
      replace HBAD := Lib.hid hbad
      replace KT := Lib.hid KT
      clear hbad h1
      cases t
      · go_wp2_with (first | (go_at_call 107; refine KT.out.mono ?_; rintro e wb ⟨rfl, rfl⟩))
        go_meet
        exact ⟨congrArg Value.bool (by rw [HBAD.out]; simp), rfl⟩
      · by_cases h2 : next < 1
        · go_wp2_with (first | (go_at_call 107; refine KT.out.mono ?_; rintro e wb ⟨rfl, rfl⟩))
          go_meet
          exact ⟨congrArg Value.bool (by rw [HBAD.out]; simp [h2]), rfl⟩
        · go_wp2_with (first | (go_at_call 107; refine KT.out.mono ?_; rintro e wb ⟨rfl, rfl⟩))
          go_meet
          exact ⟨congrArg Value.bool (by rw [HBAD.out, decide_eq_false (show ¬ next < 1 by omega)]; simp), rfl⟩
  case rest =>
    obtain ⟨rfl, rfl⟩ := hcut
    clear KT
    cases bad with
    | true =>
      have hoo := HOO.out
      rw [if_pos rfl, if_pos (by decide)] at hoo
      replace HOO := Lib.hid hoo
      clear hoo
      go_wp2
      go_ret
      exact FSaid.same HP.out HD.out HMF.out M1.out HOO.out
    | false =>
    simp only [Bool.false_eq_true, if_false] at HOO
    have KC := contains_110 a l l.length cap rfl hll HL1.out (.pointer (some ⟨k0, 0, none⟩)) P.noFlip (fun x => close110_any HP1.out hpg x0 x)
    cases hany : l.any P.noFlip with
    | true =>
      have hoo := HOO.out
      rw [hany, if_pos rfl, if_pos (by decide)] at hoo
      rw [hany] at KC
      replace HOO := Lib.hid hoo
      replace KC := Lib.hid KC
      clear hoo hany
      go_wp2_with fail
      refine KC.out.mono ?_
      rintro e wb ⟨rfl, rfl⟩
      go_wp2
      go_ret
      exact FSaid.same HP.out HD.out HMF.out M1.out HOO.out
    | false =>
    rw [hany] at KC HOO
    simp only [Bool.false_eq_true, if_false] at HOO
    have HALL := Lib.hid (not_any_noFlip hany hpg)
    replace KC := Lib.hid KC
    clear hany
    by_cases hlen : 100 < b.length
    · have hoo := HOO.out
      rw [if_pos hlen, if_pos (by decide)] at hoo
      replace HOO := Lib.hid hoo
      have hl1 : 100 < (b.length : Int) := by omega
      clear hoo hlen
      go_wp2_with fail
      refine KC.out.mono ?_
      rintro e wb ⟨rfl, rfl⟩
      go_wp2
      go_ret
      exact FSaid.same HP.out HD.out HMF.out M1.out HOO.out
    · have hl1 : (b.length : Int) ≤ 100 := by omega
      simp only [if_neg hlen, ne_eq, not_true_eq_false, if_false] at HOO
      clear hlen
      go_wp2_with fail
      refine KC.out.mono ?_
      rintro e wb ⟨rfl, rfl⟩
      clear KC
      go_upto_region 11 with fail
      have hargs : (page = -1 ∨ P.there page = true) ∧ 1 ≤ next ∧ next ≤ 1152921504606846976 := by
        have h := HBAD.out.symm
        simp only [Bool.or_eq_false_iff, Bool.and_eq_false_iff, decide_eq_false_iff_not, bne_eq_false_iff_eq, Bool.not_eq_false'] at h
        exact ⟨h.1.1, by omega, by omega⟩
      have hpage : -1 ≤ page ∧ page ≤ 4096 := by
        rcases hargs.1 with h | h
        · omega
        · have h2 : 0 ≤ page ∧ page < (P.pages : Int) := of_decide_eq_true h
          omega
      obtain ⟨nx, rfl⟩ : ∃ nx : Nat, next = (nx : Int) := ⟨next.toNat, by omega⟩
      have hnx : nx ≤ 1152921504606846976 := by omega
      obtain ⟨gn, hgn⟩ : ∃ gn, gn = P.root.gen := ⟨_, rfl⟩
      obtain ⟨G, hG⟩ : ∃ G, G = gn + 1 := ⟨_, rfl⟩
      have hG62 : G < 4611686018427387904 := by omega
      have hR : P.toFlip page (nx : Int) b = ⟨G, page, nx, b⟩ := by unfold Pgr.toFlip; rw [Int.toNat_natCast, hG, hgn]
      have hok : Rt.ok ⟨G, page, nx, b⟩ := ⟨hG62, hpage, by show nx < _; omega, by show b.length ≤ 100; omega⟩
      rw [hR, ← hgn, ← hG] at HOO
      have HOK := Lib.hid hok
      have wG : IntKind.i64.wrap ((gn : Int) + 1) = (G : Int) := by rw [hG]; push_cast; exact IntWalk.i64_in _ (by omega)
      have WG := Lib.hid wG
      have HG := Lib.hid hG
      have hge : w.heap.size ≤ k0 := by rw [HK0.out]; exact Nat.le_refl _
      have HGN := Lib.hid hgn
      have g9 : W1.cell? ⟨q, 4099, none⟩ = some (.int .i64 (gn : Int)) := by rw [hgn]; exact HP1.out.tail.1
      have G9 := Lib.hid g9
      clear hR hok hG hgn wG hargs hgen HBAD g9
      go_cut [11] (fun v11 wx => ∃ kr a' c', v11 = .pointer (some ⟨kr, 0, none⟩) ∧ FL w k0 q G page nx b kr a' c' wx)
      case first =>
        have hamn : am = none → b = [] ∧ cm = 0 := fun e => by
          refine ⟨Classical.byContradiction (fun hne => ?_), ham e⟩
          obtain ⟨g, off, e2, -⟩ := HB1.out hne
          rw [e] at e2
          cases e2
        have KL : ∀ w', Mod (fun _ => False) W1 w' → Calls Try.prog 86 #[.slice am b.length cm] w' fun e w'' => ∃ a' c', e = .returned (.slice a' b.length c') ∧ OwnB w'' k0 (.slice a' b.length c') b ∧ Mod (fun _ => False) w' w'' ∧ (∀ k, (Value.slice a' b.length c').ownBlock = some k → w'.heap.size ≤ k ∧ k < w''.heap.size) := fun w' hm' =>
          (clone_n am b b.length cm w' w'.heap.size rfl (Nat.le_refl _) hbl hamn (HB1.out.mod hm' (fun _ _ _ => id))).mono fun e w'' ⟨v, h1, h2, h3, h4⟩ => by
            obtain ⟨a', c', rfl, -, -, -⟩ := h2.shape
            have hz := hm'.size
            have := Z1.out
            exact ⟨a', c', h1, h2.weaken (by omega), h3, fun k hk => World.ownsRow.lt h2 k hk⟩
        have CS : ∀ w', Mod (fun _ => False) W1 w' → w'.cell? ⟨k0, 0, none⟩ = some (.pointer (some ⟨q, 0, none⟩)) ∧ w'.cell? ⟨q, 4099, none⟩ = some (.int .i64 (gn : Int)) := fun w' hm => ⟨hm.cell' x0 id, hm.cell' G9.out id⟩
        have KLh := Lib.hid KL
        have mdr : Mod (fun _ => False) W1 W1.drew := Mod.drew _ _
        have wG := WG.out
        obtain ⟨Z, hZ⟩ : ∃ Z, Z = W1.alloc (.cells #[.int .i64 0, .int .i64 0, .int .i64 0, .slice none 0 0] 95) := ⟨_, rfl⟩
        have mz : Mod (fun _ => False) W1 Z := by rw [hZ]; exact Mod.alloc _ _ _
        have kz : Z.heap[W1.heap.size]? = some (.cells #[.int .i64 0, .int .i64 0, .int .i64 0, .slice none 0 0] 95 (0, 0)) := by rw [hZ]; exact heap_alloc_new _ _
        have zz : Z.heap.size = W1.heap.size + 1 := by rw [hZ]; simp
        have HZ := Lib.hid hZ
        have KZ := Lib.hid kz
        have ZZ := Lib.hid zz
        have mzd : Mod (fun _ => False) W1 Z.drew := mz.trans' (Mod.drew _ _)
        clear KL hamn ham hZ kz zz
        refine wp_region_held_drew (S := fun w' => w'.cell? ⟨k0, 0, none⟩ = some (.pointer (some ⟨q, 0, none⟩)) ∧ w'.cell? ⟨q, 4099, none⟩ = some (.int .i64 (gn : Int))) (by kernel_rfl) (CS _ mdr) (fun hHeld => ?_)
        refine wpAnyH_take (i := 0) (oi := ⟨some 46, .load 93 (.tmp 5), 93, "pager.go:239", #[], none⟩) (v := ?_) rfl (by kernel_rfl) (by kernel_rfl) (by kernel_rfl) (fun _ _ _ h => h) (Or.inl ⟨by rfl, ?_⟩) (by assumption) ?_
        rotate_left
        · (intro w hSw; (try dsimp only at hSw); go_simp; try with_reducible rfl)
        simp only [Act.put, List.setIfInBounds_toArray, List.set_cons_zero, List.set_cons_succ]
        refine wpAnyH_take (i := 1) (oi := ⟨some 47, .nilCheck (.tmp 46), 0, "pager.go:239", #[⟨0, .data⟩], none⟩) (v := ?_) rfl (by kernel_rfl) (by kernel_rfl) (by kernel_rfl) (fun _ _ _ h => h) (Or.inl ⟨by rfl, ?_⟩) (by assumption) ?_
        rotate_left
        · (intro w hSw; (try dsimp only at hSw); go_simp; try with_reducible rfl)
        simp only [Act.put, List.setIfInBounds_toArray, List.set_cons_zero, List.set_cons_succ]
        refine wpAnyH_take (i := 2) (oi := ⟨some 48, .fieldAddr 153 (.tmp 47) 4, 0, "pager.go:239", #[⟨1, .data⟩], none⟩) (v := ?_) rfl (by kernel_rfl) (by kernel_rfl) (by kernel_rfl) (fun _ _ _ h => h) (Or.inl ⟨by rfl, ?_⟩) (by assumption) ?_
        rotate_left
        · (intro w hSw; (try dsimp only at hSw); go_simp; try with_reducible rfl)
        simp only [Act.put, List.setIfInBounds_toArray, List.set_cons_zero, List.set_cons_succ]
        refine wpAnyH_take (i := 3) (oi := ⟨some 49, .fieldAddr 95 (.tmp 48) 0, 0, "pager.go:239", #[⟨2, .data⟩], none⟩) (v := ?_) rfl (by kernel_rfl) (by kernel_rfl) (by kernel_rfl) (fun _ _ _ h => h) (Or.inl ⟨by rfl, ?_⟩) (by assumption) ?_
        rotate_left
        · (intro w hSw; (try dsimp only at hSw); go_simp; try with_reducible rfl)
        simp only [Act.put, List.setIfInBounds_toArray, List.set_cons_zero, List.set_cons_succ]
        refine wpAnyH_take (i := 4) (oi := ⟨some 50, .load 2 (.tmp 49), 2, "pager.go:239", #[⟨3, .data⟩], none⟩) (v := ?_) rfl (by kernel_rfl) (by kernel_rfl) (by kernel_rfl) (fun _ _ _ h => h) (Or.inl ⟨by rfl, ?_⟩) (by assumption) ?_
        rotate_left
        · (intro w hSw; (try dsimp only at hSw); go_simp; try with_reducible rfl)
        simp only [Act.put, List.setIfInBounds_toArray, List.set_cons_zero, List.set_cons_succ]
        refine wpAnyH_take (i := 5) (oi := ⟨some 51, .binOp .add 2 (.tmp 50) (.const (.int .i64 1)) 2, 2, "pager.go:239", #[⟨4, .data⟩], none⟩) (v := ?_) rfl (by kernel_rfl) (by kernel_rfl) (by kernel_rfl) (fun _ _ _ h => h) (Or.inl ⟨by rfl, ?_⟩) (by assumption) ?_
        rotate_left
        · (intro w hSw; (try dsimp only at hSw); go_simp; try with_reducible rfl)
        simp only [Act.put, List.setIfInBounds_toArray, List.set_cons_zero, List.set_cons_succ]
        refine wpAnyH_take (i := 6) (oi := ⟨some 52, .move (.tmp 1), 3, "pager.go:239", #[], none⟩) (v := ?_) rfl (by kernel_rfl) (by kernel_rfl) (by kernel_rfl) (fun _ _ _ h => h) (Or.inl ⟨by rfl, ?_⟩) (by assumption) ?_
        rotate_left
        · (intro w hSw; (try dsimp only at hSw); go_simp; try with_reducible rfl)
        simp only [Act.put, List.setIfInBounds_toArray, List.set_cons_zero, List.set_cons_succ]
        refine wpAnyH_take (i := 7) (oi := ⟨some 53, .move (.tmp 2), 2, "pager.go:239", #[], none⟩) (v := ?_) rfl (by kernel_rfl) (by kernel_rfl) (by kernel_rfl) (fun _ _ _ h => h) (Or.inl ⟨by rfl, ?_⟩) (by assumption) ?_
        rotate_left
        · (intro w hSw; (try dsimp only at hSw); go_simp; try with_reducible rfl)
        simp only [Act.put, List.setIfInBounds_toArray, List.set_cons_zero, List.set_cons_succ]
        refine wpAnyH_take (i := 8) (oi := ⟨some 54, .move (.tmp 3), 22, "pager.go:239", #[], none⟩) (v := ?_) rfl (by kernel_rfl) (by kernel_rfl) (by kernel_rfl) (fun _ _ _ h => h) (Or.inl ⟨by rfl, ?_⟩) (by assumption) ?_
        rotate_left
        · (intro w hSw; (try dsimp only at hSw); go_simp; try with_reducible rfl)
        simp only [Act.put, List.setIfInBounds_toArray, List.set_cons_zero, List.set_cons_succ]
        refine wpAnyH_ready (rs := [9, 11]) (by kernel_rfl) (by simp) ?_
        refine AllReadyH.cons (o := ⟨some 55, .call { callee := .value (.func 86), args := #[.tmp 54], argTypes := #[22] }, 22, "pager.go:239", #[⟨8, .data⟩], none⟩) rfl (fun K hK => ?_) (AllReadyH.cons (o := ⟨some 11, .alloc 95, 0, "pager.go:239", #[], none⟩) rfl (fun K hK => ?_) AllReadyH.nil)
        ·
          go_simp
          refine (KLh.out _ mdr).mono ?_
          rintro r wa ⟨a', c', rfl, hoa, ma0, hka⟩
          have ma := mdr.trans' ma0
          try simp only []
          refine hK.out _ _ (CS _ ma) (fun _ => ?_)
          clear hK K
          try simp only [Act.put, List.setIfInBounds_toArray, List.set_cons_zero, List.set_cons_succ]
          refine wpAnyH_take (i := 10) (oi := ⟨some 56, .build 95 #[(0, .tmp 51), (1, .tmp 52), (2, .tmp 53), (3, .tmp 55)], 95, "pager.go:239", #[⟨5, .data⟩, ⟨6, .data⟩, ⟨7, .data⟩, ⟨9, .data⟩], none⟩) (v := ?_) rfl (by kernel_rfl) (by kernel_rfl) (by kernel_rfl) (fun _ _ _ h => h) (Or.inl ⟨by rfl, ?_⟩) (by assumption) ?_
          rotate_left
          · (intro w hSw; (try dsimp only at hSw); go_simp; try with_reducible rfl)
          simp only [Act.put, List.setIfInBounds_toArray, List.set_cons_zero, List.set_cons_succ]
          refine wpAnyH_ready (rs := [11]) (by kernel_rfl) (by simp) ?_
          refine AllReadyH.cons (o := ⟨some 11, .alloc 95, 0, "pager.go:239", #[], none⟩) rfl (fun K hK => ?_) AllReadyH.nil
          go_simp
          try simp only []
          refine hK.out _ _ (CS _ (ma.trans' (Mod.alloc _ _ _))) (fun _ => ?_)
          clear hK K
          try simp only [Act.put, List.setIfInBounds_toArray, List.set_cons_zero, List.set_cons_succ]
          refine wpAnyH_ready (rs := [12]) (by kernel_rfl) (by simp) ?_
          refine AllReadyH.cons (o := ⟨none, .store 95 (.tmp 11) (.tmp 56), 0, "pager.go:239", #[⟨11, .data⟩, ⟨10, .data⟩, ⟨9, .chain⟩, ⟨0, .phase⟩, ⟨1, .phase⟩, ⟨2, .phase⟩, ⟨3, .phase⟩, ⟨4, .phase⟩, ⟨5, .phase⟩, ⟨6, .phase⟩, ⟨7, .phase⟩, ⟨8, .phase⟩, ⟨9, .phase⟩, ⟨10, .phase⟩, ⟨11, .phase⟩], none⟩) rfl (fun K hK => ?_) AllReadyH.nil
          go_simp
          try simp only []
          refine hK.out _ _ (CS _ (ma.trans' (Mod.alloc _ _ _))) (fun _ => ?_)
          clear hK K
          try simp only [Act.put, List.setIfInBounds_toArray, List.set_cons_zero, List.set_cons_succ]
          refine wpAnyH_done (by kernel_rfl) ?_ _
          go_wp2_with fail
          go_meet
          have mb : Mod (fun _ => False) W1 _ := ma.trans' (Mod.alloc _ _ (.cells #[.int .i64 (G : Int), .int .i64 page, .int .i64 (nx : Int), .slice a' b.length c'] 95))
          have hz := ma.size
          have hz1 := Z1.out
          have hz2 := mdr.size
          exact ⟨_, a', c', rfl, M1.out.trans' mb, mb.obj HBX.out id, by omega, heap_alloc_new _ _, hoa.mod (Mod.alloc _ _ _) (fun _ _ => id), fun k hk => by have := hka k hk; omega⟩
        ·
          go_simp
          try simp only []
          refine hK.out _ _ (CS _ (mdr.trans' (Mod.alloc _ _ _))) (fun _ => ?_)
          clear hK K
          try simp only [Act.put, List.setIfInBounds_toArray, List.set_cons_zero, List.set_cons_succ]
          refine wpAnyH_ready (rs := [9]) (by kernel_rfl) (by simp) ?_
          refine AllReadyH.cons (o := ⟨some 55, .call { callee := .value (.func 86), args := #[.tmp 54], argTypes := #[22] }, 22, "pager.go:239", #[⟨8, .data⟩], none⟩) rfl (fun K hK => ?_) AllReadyH.nil
          rw [← HZ.out]
          go_simp
          refine (KLh.out _ mzd).mono ?_
          rintro r wa ⟨a', c', rfl, hoa, ma0, hka⟩
          have ma := mzd.trans' ma0
          have kz := ma0.obj KZ.out id
          have hza := ma0.size
          have cc2 := fun j => cell_of_row wa W1.heap.size j _ 95 (0, 0) kz
          have e0 := cc2 0
          have e1 := cc2 1
          have e2 := cc2 2
          have e3 := cc2 3
          have g0 := thaw_of (i := 0) kz
          have g1 := thaw_of (i := 1) kz
          have g2 := thaw_of (i := 2) kz
          have g3 := thaw_of (i := 3) kz
          simp only [List.getElem?_toArray, List.getElem?_cons_zero, List.getElem?_cons_succ] at e0 e1 e2 e3
          have KZ2 := Lib.hid kz
          clear cc2 kz
          try simp only []
          refine hK.out _ _ (CS _ ma) (fun _ => ?_)
          clear hK K
          try simp only [Act.put, List.setIfInBounds_toArray, List.set_cons_zero, List.set_cons_succ]
          refine wpAnyH_take (i := 10) (oi := ⟨some 56, .build 95 #[(0, .tmp 51), (1, .tmp 52), (2, .tmp 53), (3, .tmp 55)], 95, "pager.go:239", #[⟨5, .data⟩, ⟨6, .data⟩, ⟨7, .data⟩, ⟨9, .data⟩], none⟩) (v := ?_) rfl (by kernel_rfl) (by kernel_rfl) (by kernel_rfl) (fun _ _ _ h => h) (Or.inl ⟨by rfl, ?_⟩) (by assumption) ?_
          rotate_left
          · (intro w hSw; (try dsimp only at hSw); go_simp; try with_reducible rfl)
          simp only [Act.put, List.setIfInBounds_toArray, List.set_cons_zero, List.set_cons_succ]
          refine wpAnyH_ready (rs := [12]) (by kernel_rfl) (by simp) ?_
          refine AllReadyH.cons (o := ⟨none, .store 95 (.tmp 11) (.tmp 56), 0, "pager.go:239", #[⟨11, .data⟩, ⟨10, .data⟩, ⟨9, .chain⟩, ⟨0, .phase⟩, ⟨1, .phase⟩, ⟨2, .phase⟩, ⟨3, .phase⟩, ⟨4, .phase⟩, ⟨5, .phase⟩, ⟨6, .phase⟩, ⟨7, .phase⟩, ⟨8, .phase⟩, ⟨9, .phase⟩, ⟨10, .phase⟩, ⟨11, .phase⟩], none⟩) rfl (fun K hK => ?_) AllReadyH.nil
          go_simp
          try simp only []
          refine hK.out _ _ (CS _ (ma.trans (mod4 (F := fun k => k = W1.heap.size) wa W1.heap.size rfl _ _ _ _) (fun k hk e => by omega))) (fun _ => ?_)
          clear hK K
          try simp only [Act.put, List.setIfInBounds_toArray, List.set_cons_zero, List.set_cons_succ]
          refine wpAnyH_done (by kernel_rfl) ?_ _
          go_wp2_with fail
          go_meet
          have k5 := set4 KZ2.out (.int .i64 (G : Int)) (.int .i64 page) (.int .i64 (nx : Int)) (.slice a' b.length c')
          have m5 := mod4 (F := fun k => k = W1.heap.size) wa W1.heap.size rfl (.int .i64 (G : Int)) (.int .i64 page) (.int .i64 (nx : Int)) (.slice a' b.length c')
          have hz1 := Z1.out
          have hz2 := ZZ.out
          have hz3 : Z.heap.size ≤ Z.drew.heap.size := (Mod.drew (fun _ => False) Z).size
          exact ⟨W1.heap.size, a', c', rfl, (M1.out.trans' ma).trans m5 (fun k hk e => by omega), m5.obj (ma.obj HBX.out id) (by omega), by omega, k5, hoa.mod m5 (fun k hk e => by have := hka k hk; omega), fun k hk => by have := hka k hk; omega⟩

      case rest =>
        obtain ⟨kr, a', c', rfl, hfl⟩ := hcut
        generalize wc = wr at *
        have hX0 : FX wr B B2 q p vm P F D wr := ⟨HP.out.mod hfl.m (fun _ _ => id), ⟨F, HD.out.mod hfl.m (fun _ _ => id), fun k hk => .inl hk⟩, Mod.refl _ _, ⟨Nat.lt_of_lt_of_le hqw hfl.m.size, hqF⟩, fun k hk => ⟨Nat.lt_of_lt_of_le (World.ownsRow.lt HP.out.mt k hk).2 hfl.m.size, HMF.out k hk⟩⟩
        have KC : ∀ (W : World) (D' : Dsk), FX wr B B2 q p vm P F D' W → W.cell? ⟨k0, 0, none⟩ = some (.pointer (some ⟨q, 0, none⟩)) ∧ W.cell? ⟨q, 0, none⟩ = some (.pointer (some ⟨p, 0, none⟩)) ∧ W.cell? ⟨q, 1, none⟩ = some (.int .i64 (P.frm : Int)) ∧
            W.cell? ⟨kr, 0, none⟩ = some (.int .i64 (G : Int)) ∧ W.cell? ⟨kr, 1, none⟩ = some (.int .i64 page) ∧ W.cell? ⟨kr, 2, none⟩ = some (.int .i64 (nx : Int)) ∧ W.cell? ⟨kr, 3, none⟩ = some (.slice a' b.length c') := fun W D' h => by
          have hF := HFW.out
          have hlt := hfl.lt
          have k1 : Boxed W k0 93 (.pointer (some ⟨q, 0, none⟩)) := h.m.obj hfl.bx (fun e => by have := hF _ e; omega)
          have hc := fun j => cell_of_row W kr j _ 95 (0, 0) (h.m.obj hfl.rt (fun e => by have := hF _ e; omega))
          exact ⟨k1.cell, h.pg.head.1, h.pg.head.2.1, hc 0, hc 1, hc 2, hc 3⟩
        have HC := Lib.hid KC
        have HFL := Lib.hid hfl
        have HX0 := Lib.hid hX0
        obtain ⟨c1, hc1⟩ : ∃ c1, c1 = D.whySync := ⟨_, rfl⟩
        obtain ⟨x0, x1, -⟩ := KC _ _ hX0
        obtain ⟨F1, hd1, hup⟩ := hX0.turn
        have KS := hd1.sync
        rw [← hc1] at KS
        have KS2 : Calls Try.prog 43 #[.pointer (some ⟨p, 0, none⟩)] wr fun e w' => e = .returned (.int .i64 c1) ∧ FX wr B B2 q p vm P F D.sync w' := KS.mono fun e w' ⟨h1, h2⟩ => ⟨h1, hup _ _ h2⟩
        have HKS := Lib.hid KS2
        have HC1 := Lib.hid hc1
        clear hfl hX0 KC KS KS2 hd1 hup hc1
        go_wp2_with fail
        refine HKS.out.mono ?_
        rintro e w2 ⟨rfl, hX⟩
        clear HKS x0 x1
        obtain ⟨y0, y1, y2, y3, y4, y5, y6⟩ := HC.out _ _ hX
        have t5 := hX.pg.tail.2.2.2.2
        have f5 := thaw_of (i := 4103) hX.pg.at_
        by_cases h1 : c1 = 0
        · subst h1
          obtain ⟨gm, hgm⟩ : ∃ gm, gm = G % 2 := ⟨_, rfl⟩
          have hgm2 : gm < 2 := by omega
          have wt : (G : Int).tmod 2 = (gm : Int) := by rw [hgm]; exact Int.ofNat_tmod G 2
          have hfit := hwf.fit
          have htop := hwf.top
          have wm : IntKind.i64.wrap (gm : Int) = (gm : Int) := IntWalk.i64_in _ (by omega)
          have ws : IntKind.i64.wrap ((P.frm : Int) + (gm : Int)) = (P.frm : Int) + (gm : Int) := IntWalk.i64_in _ (by omega)
          obtain ⟨s, hs⟩ : ∃ s, s = slotB ⟨G, page, nx, b⟩ := ⟨_, rfl⟩
          have hsl : s.length = 256 := by rw [hs]; exact slotB_length _ HOK.out
          obtain ⟨c2, hc2⟩ : ∃ c2, c2 = D.sync.why ((P.frm : Int) + (gm : Int)) s := ⟨_, rfl⟩
          obtain ⟨D2, hD2⟩ : ∃ D2, D2 = D.sync.write ((P.frm : Int) + (gm : Int)) s := ⟨_, rfl⟩
          have hoo := HOO.out
          rw [flipD_ok _ _ HC1.out.symm] at hoo
          rw [← hs, show ((P.frm + G % 2 : Nat) : Int) = (P.frm : Int) + (gm : Int) by rw [hgm]; push_cast; rfl, ← hc2, ← hD2] at hoo
          replace HOO := Lib.hid hoo
          have KSL : ∀ w', Mod (fun _ => False) w2 w' → Calls Try.prog 111 #[.agg #[.int .i64 (G : Int), .int .i64 page, .int .i64 (nx : Int), .slice a' b.length c']] w' fun e w'' => ∃ av cv, e = .returned (.slice av 256 cv) ∧ BytesAt w'' av s ∧ Mod (fun _ => False) w' w'' := fun w' hm => by
            have ho := (HFL.out.ow.mod (hX.m.trans hm (fun _ _ e => e.elim) : Mod F wr w') (fun k hk e => by have := HFW.out _ e; have := (HFL.out.ne k hk).1; omega))
            obtain ⟨a2, c2', e2, -, -, hbv⟩ := ho.shape
            cases e2
            have hz : a' = none → c' = 0 := fun e => by
              subst e
              rcases ho.2 with ⟨h1, h2⟩ | ⟨g', cap, cur, h1, -⟩
              · injection h1
              · injection h1 with h3; cases h3
            refine (slot_any ⟨G, page, nx, b⟩ HOK.out a' b.length c' rfl hz hbv w'.heap.size (Nat.le_refl _)).mono ?_
            rintro e w'' ⟨v, rfl, h2, h3, -⟩
            rw [← hs] at h2
            obtain ⟨av, cv, rfl, -, -, hb2⟩ := h2.shape
            rw [hsl]
            exact ⟨av, cv, rfl, hb2, h3⟩
          have hlim2 : D.sync.l.length + 1 ≤ 1048576 := by
            unfold Dsk.sync
            split
            · exact hlim
            split
            · exact hlim
            · show 0 + 1 ≤ _; omega
          have KW : ∀ w' av cv, Mod (fun _ => False) w2 w' → BytesAt w' av s → Calls Try.prog 40 #[.pointer (some ⟨p, 0, none⟩), .int .i64 ((P.frm : Int) + (gm : Int)), .slice av 256 cv] w' fun e w'' => e = .returned (.int .i64 c2) ∧ FX wr B B2 q p vm P F D2 w'' := fun w' av cv hm hb => by
            obtain ⟨F', h1, h2⟩ := (hX.still hm).turn
            rw [hc2, hD2]
            exact (h1.write hlim2 ((P.frm : Int) + (gm : Int)) av s 256 cv hsl hb (by omega)).mono fun e w'' ⟨he, ht⟩ => ⟨he, h2 _ _ ht⟩
          have CS : ∀ w' D', FX wr B B2 q p vm P F D' w' → w'.cell? ⟨k0, 0, none⟩ = some (.pointer (some ⟨q, 0, none⟩)) ∧ w'.cell? ⟨q, 0, none⟩ = some (.pointer (some ⟨p, 0, none⟩)) ∧ w'.cell? ⟨q, 1, none⟩ = some (.int .i64 (P.frm : Int)) ∧
            w'.cell? ⟨kr, 0, none⟩ = some (.int .i64 (G : Int)) ∧ w'.cell? ⟨kr, 1, none⟩ = some (.int .i64 page) ∧ w'.cell? ⟨kr, 2, none⟩ = some (.int .i64 (nx : Int)) ∧ w'.cell? ⟨kr, 3, none⟩ = some (.slice a' b.length c') := fun w' D' h => HC.out _ _ h
          have HS := Lib.hid hs
          have HSL := Lib.hid hsl
          have HGM := Lib.hid hgm
          have HC2 := Lib.hid hc2
          have HD2 := Lib.hid hD2
          have KSh := Lib.hid KSL
          have KWh := Lib.hid KW
          have mdr2 : Mod (fun _ => False) w2 w2.drew := Mod.drew _ _
          have hXd := hX.still mdr2
          have HX := Lib.hid hX
          have WT := Lib.hid wt
          have WS := Lib.hid ws
          clear hs hsl hgm hc2 hD2 KSL KW hoo hX HC y0 y1 y2 y3 y4 y5 y6 t5 f5 hlim2
          go_upto_region 14 with fail
          go_cut [12] (fun v12 wx => v12 = .int .i64 c2 ∧ FX wr B B2 q p vm P F D2 wx)
          case first =>
            have wt := WT.out
            have ws := WS.out
            refine wp_region_held_drew (S := fun w' => w'.cell? ⟨k0, 0, none⟩ = some (.pointer (some ⟨q, 0, none⟩)) ∧ w'.cell? ⟨q, 0, none⟩ = some (.pointer (some ⟨p, 0, none⟩)) ∧ w'.cell? ⟨q, 1, none⟩ = some (.int .i64 (P.frm : Int)) ∧ w'.cell? ⟨kr, 0, none⟩ = some (.int .i64 (G : Int)) ∧ w'.cell? ⟨kr, 1, none⟩ = some (.int .i64 page) ∧ w'.cell? ⟨kr, 2, none⟩ = some (.int .i64 (nx : Int)) ∧ w'.cell? ⟨kr, 3, none⟩ = some (.slice a' b.length c')) (by kernel_rfl) (CS _ _ hXd) (fun hHeld => ?_)
            refine wpAnyH_take (i := 0) (oi := ⟨some 64, .load 93 (.tmp 5), 93, "pager.go:242", #[], none⟩) (v := ?_) rfl (by kernel_rfl) (by kernel_rfl) (by kernel_rfl) (fun _ _ _ h => h) (Or.inl ⟨by rfl, ?_⟩) (by assumption) ?_
            rotate_left
            · (intro w hSw; (try dsimp only at hSw); go_simp; try with_reducible rfl)
            simp only [Act.put, List.setIfInBounds_toArray, List.set_cons_zero, List.set_cons_succ]
            refine wpAnyH_take (i := 1) (oi := ⟨some 65, .nilCheck (.tmp 64), 0, "pager.go:242", #[⟨0, .data⟩], none⟩) (v := ?_) rfl (by kernel_rfl) (by kernel_rfl) (by kernel_rfl) (fun _ _ _ h => h) (Or.inl ⟨by rfl, ?_⟩) (by assumption) ?_
            rotate_left
            · (intro w hSw; (try dsimp only at hSw); go_simp; try with_reducible rfl)
            simp only [Act.put, List.setIfInBounds_toArray, List.set_cons_zero, List.set_cons_succ]
            refine wpAnyH_take (i := 2) (oi := ⟨some 66, .fieldAddr 153 (.tmp 65) 0, 0, "pager.go:242", #[⟨1, .data⟩], none⟩) (v := ?_) rfl (by kernel_rfl) (by kernel_rfl) (by kernel_rfl) (fun _ _ _ h => h) (Or.inl ⟨by rfl, ?_⟩) (by assumption) ?_
            rotate_left
            · (intro w hSw; (try dsimp only at hSw); go_simp; try with_reducible rfl)
            simp only [Act.put, List.setIfInBounds_toArray, List.set_cons_zero, List.set_cons_succ]
            refine wpAnyH_take (i := 3) (oi := ⟨some 67, .load 40 (.tmp 66), 40, "pager.go:242", #[⟨2, .data⟩], none⟩) (v := ?_) rfl (by kernel_rfl) (by kernel_rfl) (by kernel_rfl) (fun _ _ _ h => h) (Or.inl ⟨by rfl, ?_⟩) (by assumption) ?_
            rotate_left
            · (intro w hSw; (try dsimp only at hSw); go_simp; try with_reducible rfl)
            simp only [Act.put, List.setIfInBounds_toArray, List.set_cons_zero, List.set_cons_succ]
            refine wpAnyH_take (i := 4) (oi := ⟨some 68, .load 93 (.tmp 5), 93, "pager.go:242", #[], none⟩) (v := ?_) rfl (by kernel_rfl) (by kernel_rfl) (by kernel_rfl) (fun _ _ _ h => h) (Or.inl ⟨by rfl, ?_⟩) (by assumption) ?_
            rotate_left
            · (intro w hSw; (try dsimp only at hSw); go_simp; try with_reducible rfl)
            simp only [Act.put, List.setIfInBounds_toArray, List.set_cons_zero, List.set_cons_succ]
            refine wpAnyH_take (i := 5) (oi := ⟨some 69, .nilCheck (.tmp 68), 0, "pager.go:242", #[⟨4, .data⟩], none⟩) (v := ?_) rfl (by kernel_rfl) (by kernel_rfl) (by kernel_rfl) (fun _ _ _ h => h) (Or.inl ⟨by rfl, ?_⟩) (by assumption) ?_
            rotate_left
            · (intro w hSw; (try dsimp only at hSw); go_simp; try with_reducible rfl)
            simp only [Act.put, List.setIfInBounds_toArray, List.set_cons_zero, List.set_cons_succ]
            refine wpAnyH_take (i := 6) (oi := ⟨some 70, .fieldAddr 153 (.tmp 69) 1, 0, "pager.go:242", #[⟨5, .data⟩], none⟩) (v := ?_) rfl (by kernel_rfl) (by kernel_rfl) (by kernel_rfl) (fun _ _ _ h => h) (Or.inl ⟨by rfl, ?_⟩) (by assumption) ?_
            rotate_left
            · (intro w hSw; (try dsimp only at hSw); go_simp; try with_reducible rfl)
            simp only [Act.put, List.setIfInBounds_toArray, List.set_cons_zero, List.set_cons_succ]
            refine wpAnyH_take (i := 7) (oi := ⟨some 71, .load 3 (.tmp 70), 3, "pager.go:242", #[⟨6, .data⟩], none⟩) (v := ?_) rfl (by kernel_rfl) (by kernel_rfl) (by kernel_rfl) (fun _ _ _ h => h) (Or.inl ⟨by rfl, ?_⟩) (by assumption) ?_
            rotate_left
            · (intro w hSw; (try dsimp only at hSw); go_simp; try with_reducible rfl)
            simp only [Act.put, List.setIfInBounds_toArray, List.set_cons_zero, List.set_cons_succ]
            refine wpAnyH_take (i := 8) (oi := ⟨some 72, .fieldAddr 95 (.tmp 11) 0, 0, "pager.go:242", #[], none⟩) (v := ?_) rfl (by kernel_rfl) (by kernel_rfl) (by kernel_rfl) (fun _ _ _ h => h) (Or.inl ⟨by rfl, ?_⟩) (by assumption) ?_
            rotate_left
            · (intro w hSw; (try dsimp only at hSw); go_simp; try with_reducible rfl)
            simp only [Act.put, List.setIfInBounds_toArray, List.set_cons_zero, List.set_cons_succ]
            refine wpAnyH_take (i := 9) (oi := ⟨some 73, .load 2 (.tmp 72), 2, "pager.go:242", #[⟨8, .data⟩], none⟩) (v := ?_) rfl (by kernel_rfl) (by kernel_rfl) (by kernel_rfl) (fun _ _ _ h => h) (Or.inl ⟨by rfl, ?_⟩) (by assumption) ?_
            rotate_left
            · (intro w hSw; (try dsimp only at hSw); go_simp; try with_reducible rfl)
            simp only [Act.put, List.setIfInBounds_toArray, List.set_cons_zero, List.set_cons_succ]
            refine wpAnyH_take (i := 10) (oi := ⟨some 74, .binOp .rem 2 (.tmp 73) (.const (.int .i64 2)) 2, 2, "pager.go:242", #[⟨9, .data⟩], none⟩) (v := ?_) rfl (by kernel_rfl) (by kernel_rfl) (by kernel_rfl) (fun _ _ _ h => h) (Or.inl ⟨by rfl, ?_⟩) (by assumption) ?_
            rotate_left
            · (intro w hSw; (try dsimp only at hSw); go_simp; try with_reducible rfl)
            simp only [Act.put, List.setIfInBounds_toArray, List.set_cons_zero, List.set_cons_succ]
            refine wpAnyH_take (i := 11) (oi := ⟨some 75, .binOp .add 3 (.tmp 71) (.tmp 74) 3, 3, "pager.go:242", #[⟨7, .data⟩, ⟨10, .data⟩], none⟩) (v := ?_) rfl (by kernel_rfl) (by kernel_rfl) (by kernel_rfl) (fun _ _ _ h => h) (Or.inl ⟨by rfl, ?_⟩) (by assumption) ?_
            rotate_left
            · (intro w hSw; (try dsimp only at hSw); go_simp; try with_reducible rfl)
            simp only [Act.put, List.setIfInBounds_toArray, List.set_cons_zero, List.set_cons_succ]
            refine wpAnyH_take (i := 12) (oi := ⟨some 76, .load 95 (.tmp 11), 95, "pager.go:242", #[], none⟩) (v := ?_) rfl (by kernel_rfl) (by kernel_rfl) (by kernel_rfl) (fun _ _ _ h => h) (Or.inl ⟨by rfl, ?_⟩) (by assumption) ?_
            rotate_left
            · (intro w hSw; (try dsimp only at hSw); go_simp; try with_reducible rfl)
            simp only [Act.put, List.setIfInBounds_toArray, List.set_cons_zero, List.set_cons_succ]
            refine wpAnyH_ready (rs := [13]) (by kernel_rfl) (by simp) ?_
            refine AllReadyH.cons (o := ⟨some 77, .call { callee := .value (.func 111), args := #[.tmp 76], argTypes := #[95] }, 22, "pager.go:242", #[⟨12, .data⟩], none⟩) rfl (fun K hK => ?_) AllReadyH.nil
            go_simp
            refine (KSh.out _ mdr2).mono ?_
            rintro r wa ⟨av, cv, rfl, hbv, ma0⟩
            have ma := mdr2.trans' ma0
            try simp only []
            refine hK.out _ _ (CS _ _ (hXd.still ma0)) (fun _ => ?_)
            clear hK K
            try simp only [Act.put, List.setIfInBounds_toArray, List.set_cons_zero, List.set_cons_succ]
            refine wpAnyH_ready (rs := [14]) (by kernel_rfl) (by simp) ?_
            refine AllReadyH.cons (o := ⟨some 78, .call { callee := .value (.func 40), args := #[.tmp 67, .tmp 75, .tmp 77], argTypes := #[40, 3, 22] }, 32, "pager.go:242", #[⟨3, .data⟩, ⟨11, .data⟩, ⟨13, .data⟩, ⟨13, .chain⟩], none⟩) rfl (fun K hK => ?_) AllReadyH.nil
            go_simp
            refine (KWh.out _ av cv ma hbv).mono ?_
            rintro r wb ⟨rfl, hX2⟩
            try simp only []
            refine hK.out _ _ (CS _ _ hX2) (fun _ => ?_)
            clear hK K
            try simp only [Act.put, List.setIfInBounds_toArray, List.set_cons_zero, List.set_cons_succ]
            refine wpAnyH_take (i := 15) (oi := ⟨some 12, .assign (.tmp 78), 32, "pager.go:242", #[⟨14, .data⟩, ⟨14, .chain⟩, ⟨0, .phase⟩, ⟨1, .phase⟩, ⟨2, .phase⟩, ⟨3, .phase⟩, ⟨4, .phase⟩, ⟨5, .phase⟩, ⟨6, .phase⟩, ⟨7, .phase⟩, ⟨8, .phase⟩, ⟨9, .phase⟩, ⟨10, .phase⟩, ⟨11, .phase⟩, ⟨12, .phase⟩, ⟨13, .phase⟩, ⟨14, .phase⟩], none⟩) (v := ?_) rfl (by kernel_rfl) (by kernel_rfl) (by kernel_rfl) (fun _ _ _ h => h) (Or.inl ⟨by rfl, ?_⟩) (by assumption) ?_
            rotate_left
            · (intro w hSw; (try dsimp only at hSw); go_simp; try with_reducible rfl)
            simp only [Act.put, List.setIfInBounds_toArray, List.set_cons_zero, List.set_cons_succ]
            refine wpAnyH_done (by kernel_rfl) ?_ _
            go_wp2_with fail
            go_meet
            exact ⟨rfl, hX2⟩

          case rest =>
            obtain ⟨rfl, hX2⟩ := hcut
            obtain ⟨y0, y1, y2, y3, y4, y5, y6⟩ := CS _ _ hX2
            have t5 := hX2.pg.tail.2.2.2.2
            have f5 := thaw_of (i := 4103) hX2.pg.at_
            have HCS := Lib.hid CS
            clear CS KSh KWh hXd mdr2 wt ws
            by_cases h2 : c2 = 0
            · subst h2
              have hoo := HOO.out
              simp only [ne_eq, not_true_eq_false, if_false] at hoo
              obtain ⟨c3, hc3⟩ : ∃ c3, c3 = D2.whySync := ⟨_, rfl⟩
              rw [← hc3] at hoo
              obtain ⟨F1, hd1, hup⟩ := hX2.turn
              have KS2 : Calls Try.prog 43 #[.pointer (some ⟨p, 0, none⟩)] wc fun e w' => e = .returned (.int .i64 c3) ∧ FX wr B B2 q p vm P F D2.sync w' := by
                rw [hc3]
                exact hd1.sync.mono fun e w' ⟨h1, h2⟩ => ⟨h1, hup _ _ h2⟩
              have HKS := Lib.hid KS2
              have HX2 := Lib.hid hX2
              replace HOO := Lib.hid hoo
              have HC3 := Lib.hid hc3
              clear hX2 hd1 hup KS2 t5 f5 hoo hc3
              go_wp2_with fail
              refine HKS.out.mono ?_
              rintro e w5 ⟨rfl, hX5⟩
              clear HKS y0 y1 y2 y3 y4 y5 y6
              obtain ⟨y0, y1, y2, y3, y4, y5, y6⟩ := HCS.out _ _ hX5
              by_cases h3 : c3 = 0
              · subst h3
                have hoo := HOO.out
                rw [if_pos rfl] at hoo
                obtain ⟨t0, t1, t2, t3, -⟩ := hX5.pg.tail
                have g0 := thaw_of (i := 4099) hX5.pg.at_
                have g1 := thaw_of (i := 4100) hX5.pg.at_
                have g2 := thaw_of (i := 4101) hX5.pg.at_
                have g3 := thaw_of (i := 4102) hX5.pg.at_
                have hF := HFW.out
                have ho5 : OwnB w5 B (.slice a' b.length c') b := (HFL.out.ow.mod hX5.m (fun k hk e => by have := hF _ e; have := (HFL.out.ne k hk).1; omega)).weaken (by have := HP.out.hq; omega)
                have hR := hX5.pg.setRoot ⟨G, page, nx, b⟩ ho5
                have m6 := mod4q (F := fun k => k = q) w5 q rfl (.int .i64 (G : Int)) (.int .i64 page) (.int .i64 (nx : Int)) (.slice a' b.length c')
                have hl5 := (HL0.out.mod HFL.out.m (fun _ _ _ => id)).mod hX5.m (fun x hx hne => (HLA.out x hx hne).2)
                have hl6 := hl5.mod m6 (fun x hx hne => (HLA.out x hx hne).1)
                have hset := pset_any hR a l l.length cap rfl hll hl6 (fun x hx hne => (HLA.out x hx hne).1) HALL.out
                have HSET := Lib.hid hset
                have HX5 := Lib.hid hX5
                have M6 := Lib.hid m6
                replace HOO := Lib.hid hoo
                clear hset hX5 hR m6 hl5 hl6 ho5 hoo hF
                go_wp2_with fail
                refine HSET.out.mono ?_
                rintro e w7 ⟨rfl, hp7, m7⟩
                simp only [HDD.out] at hp7
                have HP7 := Lib.hid hp7
                have M7 := Lib.hid m7
                clear hp7 m7 HSET y0 y1 y2 y3 y4 y5 y6 t0 t1 t2 t3 g0 g1 g2 g3
                go_wp2
                go_ret
                obtain ⟨F', e1, e2⟩ := HX5.out.dk
                have hF := HFW.out
                have hzr := HFL.out.m.size
                have m67 := M6.out.trans' M7.out
                rw [HOO.out]
                refine ⟨rfl, _, F', HP7.out, e1.mod m67 (fun k hk e => ?_), fun k hk => (e2 k hk).imp id (fun e => by omega), fun k hk => ?_, ((HFL.out.m.mono (fun _ _ e => e.elim)).trans' (HX5.out.m.mono (fun _ _ e => .inr e))).trans' (m67.mono (fun _ _ e => .inl e))⟩
                · subst e
                  rcases e2 _ hk with e | e
                  · exact hqF e
                  · omega
                · have h1 := HFL.out.ne k hk
                  have h2 := (World.ownsRow.lt HFL.out.ow k hk).2
                  refine ⟨.inr (by omega), fun e => ?_⟩
                  rcases e2 k e with e | e
                  · have := hF k e; omega
                  · omega
              · have hoo := HOO.out
                rw [if_neg h3] at hoo
                have hb2 : (c3 != 0) = true := by simpa using h3
                have t5 := hX5.pg.tail.2.2.2.2
                have f5 := thaw_of (i := 4103) hX5.pg.at_
                have HX5 := Lib.hid hX5
                replace HOO := Lib.hid hoo
                clear hoo h3 hX5 y1 y2 y3 y4 y5 y6
                go_wp2
                go_ret
                exact HX5.out.die HFL.out.m HOO.out hqw
            · have hoo := HOO.out
              rw [if_pos h2] at hoo
              simp only at hoo
              rw [if_neg h2] at hoo
              have hb1 : (c2 == 0) = false := by simpa using h2
              have hb2 : (c2 != 0) = true := by simpa using h2
              have HX2 := Lib.hid hX2
              replace HOO := Lib.hid hoo
              clear hoo h2 hX2 y1 y2 y3 y4 y5 y6
              go_wp2
              go_ret
              exact HX2.out.die HFL.out.m HOO.out hqw
        · have hoo := HOO.out
          have hD1 : D.whySync ≠ 0 := by rw [← HC1.out]; exact h1
          rw [flipD_no _ _ hD1] at hoo
          simp only at hoo
          rw [if_neg hD1, ← HC1.out] at hoo
          have hb1 : (c1 == 0) = false := by simpa using h1
          have hb2 : (c1 != 0) = true := by simpa using h1
          have HX := Lib.hid hX
          replace HOO := Lib.hid hoo
          clear hoo h1 hD1 hX y1 y2 y3 y4 y5 y6
          go_wp2
          go_ret
          exact HX.out.die HFL.out.m HOO.out hqw
end Go.Proofs.Ytdinnkacilgmmaa
namespace Go.Proofs.Ytdinnkacilgmmaa
open Go.RowKit

theorem results_108 {fn : Func} {p : Tmp} {b : Nat} {v : Value} (h : fn.results = #[.cell p 108]) (tmps : Array Value) (w : World) (hp : tmps.getD p undef = .pointer (some ⟨b, 0, none⟩)) (hc : RtCell w b v) :
    (results fn tmps).run Try.prog w = .ok v w := by
  obtain ⟨x0, x1, x2, x3, rfl, h0, h1, h2, h3⟩ := hc
  simp only [results, h]
  have hp' : tmps[p]?.getD undef = .pointer (some ⟨b, 0, none⟩) := by simpa using hp
  simp [hp', asAddr, go_sem, h0, h1, h2, h3]

set_option maxRecDepth 100000 in
theorem as_any {w : World} (R : Rt) (a : Option Addr) (n c : Nat) : Calls Try.prog 74 #[rootV R (.slice a n c)] w fun e w' => e = .returned (rootV R (.slice a n c)) ∧ Mod (fun _ => False) w w' := by
  unfold rootV
  go_enter Try.func74, Try.ntmps74
  go_wp2
  exact bodyPost_ret (results_108 rfl _ _ rfl (RtCell.of (heap_alloc2_new _ _ _))) rfl ⟨rfl, (Mod.alloc _ _ _).trans' (Mod.alloc _ _ _)⟩

def Rt.same (R S : Rt) : Bool := decide (R.gen = S.gen) && decide (R.page = S.page) && decide (R.next = S.next) && decide (R.mt = S.mt)
theorem Rt.same_self (R : Rt) : R.same R = true := by simp [Rt.same]
set_option maxHeartbeats 1000000 in
set_option maxRecDepth 100000 in
theorem same_any {w : World} (R S : Rt) (a : Option Addr) (n c : Nat) (b : Option Addr) (m d : Nat) (hn : R.mt.length = n) (hm : S.mt.length = m) (ha : BytesAt w a R.mt) (hb : BytesAt w b S.mt) :
    Calls Try.prog 73 #[rootV R (.slice a n c), rootV S (.slice b m d)] w fun e w' => e = .returned (.bool (R.same S)) ∧ Mod (fun _ => False) w w' := by
  subst hn hm
  obtain ⟨o, ho⟩ : ∃ o, o = R.same S := ⟨_, rfl⟩
  rw [← ho]
  unfold Rt.same at ho
  unfold rootV
  obtain ⟨g1, p1, n1, m1⟩ := R
  obtain ⟨g2, p2, n2, m2⟩ := S
  dsimp only at *
  have HO := Lib.hid ho
  clear ho
  have mm : ∀ A1 A2, Mod (fun _ => False) w ((w.alloc A1).alloc A2) := fun A1 A2 => (Mod.alloc _ _ _).trans' (Mod.alloc _ _ _)
  have SA : ∀ A1 A2, (convert 22 9 (.slice a m1.length c)).run Try.prog ((w.alloc A1).alloc A2) = .ok (.string ⟨m1.toArray⟩) ((w.alloc A1).alloc A2) := fun A1 A2 => run_str (ha.mod (mm A1 A2) (fun _ _ _ => id)) _ c rfl
  have SB : ∀ A1 A2, (convert 22 9 (.slice b m2.length d)).run Try.prog ((w.alloc A1).alloc A2) = .ok (.string ⟨m2.toArray⟩) ((w.alloc A1).alloc A2) := fun A1 A2 => run_str (hb.mod (mm A1 A2) (fun _ _ _ => id)) _ d rfl
  have SA' := SA (.cells #[.int .i64 (g1 : Int), .int .i64 p1, .int .i64 (n1 : Int), .slice a m1.length c] 108) (.cells #[.int .i64 (g2 : Int), .int .i64 p2, .int .i64 (n2 : Int), .slice b m2.length d] 108)
  have SB' := SB (.cells #[.int .i64 (g1 : Int), .int .i64 p1, .int .i64 (n1 : Int), .slice a m1.length c] 108) (.cells #[.int .i64 (g2 : Int), .int .i64 p2, .int .i64 (n2 : Int), .slice b m2.length d] 108)
  have MM := Lib.hid mm
  clear SA SB mm ha hb
  by_cases h1 : g1 = g2
  · have b1 : ((g1 : Int) == (g2 : Int)) = true := by simp [h1]
    by_cases h2 : p1 = p2
    · have b2 : (p1 == p2) = true := by simp [h2]
      by_cases h3 : n1 = n2
      · have b3 : ((n1 : Int) == (n2 : Int)) = true := by simp [h3]
        obtain ⟨t, ht⟩ : ∃ t, t = (m1 == m2) := ⟨_, rfl⟩
        have hot : o = t := by rw [HO.out, ht]; by_cases hm : m1 = m2 <;> simp [h1, h2, h3, hm]
        have HOT := Lib.hid hot
        have HT := Lib.hid ht.symm
        clear hot ht h1 h2 h3 HO
        go_enter Try.func73, Try.ntmps73
        go_wp2
        go_ret
        exact ⟨ret_val (by show Value.bool _ = _; rw [HOT.out, HT.out]), MM.out _ _⟩
      · have b3 : ((n1 : Int) == (n2 : Int)) = false := by rw [beq_eq_false_iff_ne]; omega
        have hot : o = false := by rw [HO.out]; simp [h3]
        have HOT := Lib.hid hot
        clear hot h1 h2 h3 HO SA' SB'
        go_enter Try.func73, Try.ntmps73
        go_wp2
        go_ret
        exact ⟨ret_val (by show Value.bool _ = _; rw [HOT.out]), MM.out _ _⟩
    · have b2 : (p1 == p2) = false := by simpa using h2
      have hot : o = false := by rw [HO.out]; simp [h2]
      have HOT := Lib.hid hot
      clear hot h1 h2 HO SA' SB'
      go_enter Try.func73, Try.ntmps73
      go_wp2
      go_ret
      exact ⟨ret_val (by show Value.bool _ = _; rw [HOT.out]), MM.out _ _⟩
  · have b1 : ((g1 : Int) == (g2 : Int)) = false := by rw [beq_eq_false_iff_ne]; omega
    have hot : o = false := by rw [HO.out]; simp [h1]
    have HOT := Lib.hid hot
    clear hot h1 HO SA' SB'
    go_enter Try.func73, Try.ntmps73
    go_wp2
    go_ret
    exact ⟨ret_val (by show Value.bool _ = _; rw [HOT.out]), MM.out _ _⟩

/-! ### several -/
theorem Mod.drewN (F : Nat → Prop) (w : World) (n : Nat) : Mod F w (w.drewN n) := ⟨rfl, rfl, rfl, Nat.le_refl _, fun _ _ _ => rfl⟩
end Go.Proofs.Ytdinnkacilgmmaa
namespace Go.Proofs.Ytdinnkacilgmmaa
open Go.RowKit

theorem PgV.weaken {w : World} {B B' q p : Nat} {vm : Value} {P : Pgr} (h : PgV w B' q p vm P) (hB : B ≤ B') : PgV w B q p vm P := ⟨h.at_, Nat.le_trans hB h.hq, h.mt.weaken hB, h.len⟩
/-- a pager as a thing -/
def PT (B q p : Nat) (P : Pgr) : Thg B := ⟨fun w F => ∃ vm, PgV w B q p vm P ∧ F = fun k => k = q ∨ vm.ownBlock = some k,
  fun {w F} h k hk => by
    obtain ⟨vm, h1, rfl⟩ := h
    rcases hk with rfl | hk
    · exact ⟨h1.hq, lt_of_block h1.at_⟩
    · exact World.ownsRow.lt h1.mt k hk,
  fun {G w w' F} h hm hF => by
    obtain ⟨vm, h1, rfl⟩ := h
    exact ⟨vm, h1.mod hm (fun k hk => hF k (hk.imp id Eq.symm)), rfl⟩⟩
/-- numbers that are owned, as a thing -/
def IntsT (B : Nat) (v : Value) (l : List Int) : Thg B :=
  ⟨fun w F => w.ownsRow B 3 1 v l.length (l.map fun n => .int .i64 n) ∧ F = fun k => v.ownBlock = some k, fun {w F} h k hk => by obtain ⟨h, rfl⟩ := h; exact World.ownsRow.lt h k hk,
    fun {G w w' F} h hm hF => by obtain ⟨h, rfl⟩ := h; exact ⟨owns_mod h hm hF, rfl⟩⟩
theorem ownsInts_at {w : World} {B : Nat} {v : Value} {l : List Int} (h : w.ownsRow B 3 1 v l.length (l.map fun n => .int .i64 n)) :
    ∃ a cap, v = .slice a l.length cap ∧ l.length ≤ cap ∧ IntsAt w a l ∧ (∀ x, a = some x → l ≠ [] → v.ownBlock = some x.block) := by
  rcases h.2 with ⟨rfl, e⟩ | ⟨g, cap, cur, rfl, -, hg, hle, -, -, hrow⟩
  · have : l = [] := List.eq_nil_of_length_eq_zero e
    subst this
    exact ⟨none, 0, rfl, Nat.le_refl _, fun h => absurd rfl h, fun x hx => by cases hx⟩
  · refine ⟨_, cap, rfl, hle, fun _ => ⟨g, 0, rfl, fun j hj => ?_⟩, fun x hx _ => by cases hx; rfl⟩
    rw [cell_of_row w g (0 + j) cur 3 (0, 0) hg, Nat.zero_add]
    have h8 := congrArg (fun x => x[j]?) hrow
    simp only [List.getElem?_take, Nat.mul_one, hj, if_true, List.getElem?_map, List.getElem?_eq_getElem hj, Option.map_some] at h8
    rw [← Array.getElem?_toList, h8]

section
variable {w0 w : World} {B : Nat} {Ts : List (Thg B)}

/-- two of them turned, and where the others lie -/
theorem Apart.turn2w (h : Apart w0 B Ts w) (i j : Nat) {S T : Thg B} (hi : Ts[i]? = some S) (hj : Ts[j]? = some T) (hij : i ≠ j) :
    ∃ Fs : Nat → Nat → Prop, (∀ (n : Nat) (U : Thg B), Ts[n]? = some U → U.at_ w (Fs n)) ∧ (∀ a b, a < Ts.length → b < Ts.length → a ≠ b → ∀ k, Fs a k → ¬ Fs b k) ∧
      ∀ (S' T' : Thg B) (w' : World) (F' G' : Nat → Prop), Mod (fun k => Fs i k ∨ Fs j k) w w' → S'.at_ w' F' → T'.at_ w' G' → (∀ k, F' k → ¬ G' k) → (∀ k, F' k → Fs i k ∨ w.heap.size ≤ k) → (∀ k, G' k → Fs j k ∨ w.heap.size ≤ k) →
      Apart w0 B ((Ts.set i S').set j T') w' := by
  obtain ⟨Fs, h1, h2⟩ := h.own
  have hil : i < Ts.length := (List.getElem?_eq_some_iff.1 hi).1
  have hjl : j < Ts.length := (List.getElem?_eq_some_iff.1 hj).1
  have hS := h1 i S hi
  have hT := h1 j T hj
  have lt : ∀ n k, n < Ts.length → Fs n k → k < w.heap.size := fun n k hn hk => ((Ts[n]).lt (h1 n _ (List.getElem?_eq_getElem hn)) k hk).2
  refine ⟨Fs, h1, h2, fun S' T' w' F' G' hm hS' hT' hd hF hG => ⟨h.bel.trans (hm.below (fun k hk => hk.elim (fun e => (S.lt hS k e).1) (fun e => (T.lt hT k e).1)) h.le), Nat.le_trans h.le hm.size, fun n => if n = j then G' else if n = i then F' else Fs n, ?_, ?_⟩⟩
  · intro n U hn
    by_cases ej : n = j
    · subst ej
      simp only [if_true]
      rw [List.getElem?_set_self (by rw [List.length_set]; exact hjl)] at hn
      cases hn
      exact hT'
    · simp only [if_neg ej]
      rw [List.getElem?_set_ne (Ne.symm ej)] at hn
      by_cases ei : n = i
      · subst ei
        simp only [if_true]
        rw [List.getElem?_set_self hil] at hn
        cases hn
        exact hS'
      · simp only [if_neg ei]
        rw [List.getElem?_set_ne (Ne.symm ei)] at hn
        have hnl : n < Ts.length := (List.getElem?_eq_some_iff.1 hn).1
        exact U.mod (h1 n U hn) hm (fun k hk e => e.elim (h2 n i hnl hil ei k hk) (h2 n j hnl hjl ej k hk))
  · intro a b ha hb hab k hk hk'
    rw [List.length_set, List.length_set] at ha hb
    have old : ∀ n, n < Ts.length → n ≠ i → n ≠ j → Fs n k → ¬ F' k ∧ ¬ G' k := fun n hn e1 e2 hk => by
      have := lt n k hn hk
      refine ⟨fun e => ?_, fun e => ?_⟩
      · rcases hF k e with e | e
        · exact h2 n i hn hil e1 k hk e
        · omega
      · rcases hG k e with e | e
        · exact h2 n j hn hjl e2 k hk e
        · omega
    by_cases ea : a = j
    · rw [if_pos ea] at hk
      by_cases eb : b = i
      · rw [if_neg (by omega), if_pos eb] at hk'
        exact hd k hk' hk
      · rw [if_neg (by omega), if_neg eb] at hk'
        exact (old b hb eb (by omega) hk').2 hk
    · rw [if_neg ea] at hk
      by_cases ea2 : a = i
      · rw [if_pos ea2] at hk
        by_cases eb : b = j
        · rw [if_pos eb] at hk'
          exact hd k hk hk'
        · rw [if_neg eb, if_neg (by omega)] at hk'
          exact (old b hb (by omega) eb hk').1 hk
      · rw [if_neg ea2] at hk
        have ho := old a ha ea2 ea hk
        by_cases eb : b = j
        · rw [if_pos eb] at hk'
          exact ho.2 hk'
        · rw [if_neg eb] at hk'
          by_cases eb2 : b = i
          · rw [if_pos eb2] at hk'
            exact ho.1 hk'
          · rw [if_neg eb2] at hk'
            exact h2 a b ha hb hab k hk hk'
theorem set_same {α : Type} {Ts : List α} {i : Nat} {T : α} (h : Ts[i]? = some T) : Ts.set i T = Ts := by
  obtain ⟨hl, e⟩ := List.getElem?_eq_some_iff.1 h
  rw [← e]
  exact List.set_getElem_self hl
end

section
variable {w0 w : World} {B q p : Nat} {Ts : List (Thg B)} {P : Pgr} {D : Dsk}

theorem Apart.pager (h : Apart w0 B Ts w) (i : Nat) (hi : Ts[i]? = some (PT B q p P)) : ∃ vm, PgV w B q p vm P := by
  obtain ⟨F, vm, h1, -⟩ := h.get i hi
  exact ⟨vm, h1⟩
theorem Apart.popen (h : Apart w0 B Ts w) (d : Nat) (hd : Ts[d]? = some (DiskT B p D)) (frm size : Nat) (hf : frm ≤ D.N) (hs3 : 3 ≤ size) (hsz : size ≤ D.N - frm) :
    Calls Try.prog 65 #[.pointer (some ⟨p, 0, none⟩), .int .i64 (frm : Int), .int .i64 (size : Int)] w fun e w' => ∃ q vr, e = .returned (.tuple #[.pointer (some ⟨q, 0, none⟩), rootV (Pgr.opened frm size D).root vr, .int .i64 0]) ∧
      Apart w0 B (Ts ++ [PT B q p (Pgr.opened frm size D), BytesT B vr (Pgr.opened frm size D).root.mt]) w' := by
  obtain ⟨G, h1, hup⟩ := h.turnNew2 d hd
  refine (popen_ok h1 frm size hf hs3 hsz).mono ?_
  rintro e w' ⟨q, vr, vm, he, hp, ho, hm, hq, hv⟩
  refine ⟨q, vr, he, ?_⟩
  have := hup (DiskT B p D) (PT B q p (Pgr.opened frm size D)) (BytesT B vr (Pgr.opened frm size D).root.mt) w' G _ _ (hm.mono (fun _ _ e => e.elim)) (DiskAt.mod h1 hm (fun _ _ => id)) ⟨vm, hp.weaken h.le, rfl⟩ ⟨ho.weaken h.le, rfl⟩
    (fun k hk => .inl hk) (fun k hk => hk.elim (fun e => e ▸ hp.hq) (fun e => (World.ownsRow.lt hp.mt k e).1)) (fun k hk => (World.ownsRow.lt ho k hk).1)
    (fun k hk => ⟨fun e => by
      have := (DiskAt.lt h1 k hk).2
      rcases e with e | e
      · have := hp.hq; omega
      · have := (World.ownsRow.lt hp.mt k e).1; omega, fun e => by
      have := (DiskAt.lt h1 k hk).2
      have := (World.ownsRow.lt ho k e).1
      omega⟩)
    (fun k hk e => by
      rcases hk with rfl | hk
      · exact hq e
      · exact hv k hk e)
  rwa [set_same hd] at this

theorem Apart.pread (h : Apart w0 B Ts w) (i d : Nat) (hi : Ts[i]? = some (PT B q p P)) (hd : Ts[d]? = some (DiskT B p D)) (hfit : P.frm + 2 + P.pages ≤ D.N) (n : Int) :
    Calls Try.prog 67 #[.pointer (some ⟨q, 0, none⟩), .int .i64 n] w fun e w' => ∃ v, e = .returned (.tuple #[v, .int .i64 (P.read D n).2]) ∧ ViewAt w' w.heap.size v (P.read D n).1 ∧ Mod (fun _ => False) w w' := by
  obtain ⟨vm, hp⟩ := h.pager i hi
  obtain ⟨F, hD⟩ := h.disk d hd
  exact pread_any hp hD hfit n
theorem Apart.prelease (h : Apart w0 B Ts w) (i : Nat) (hi : Ts[i]? = some (PT B q p P)) (hpg : P.pages ≤ 4096) (n : Int) :
    Calls Try.prog 69 #[.pointer (some ⟨q, 0, none⟩), .int .i64 n] w fun e w' => e = .returned (.int .i64 (P.whyRelease n)) ∧ Apart w0 B (Ts.set i (PT B q p (P.release n))) w' := by
  obtain ⟨F, ⟨vm, hp, rfl⟩, hup⟩ := h.turn i hi
  exact (prelease_any hp hpg n).mono fun e w' ⟨he, hp', hm⟩ => ⟨he, hup _ _ ⟨hm.mono (fun k _ e => .inl e), _, ⟨vm, hp', rfl⟩, fun k hk => .inl hk⟩⟩
theorem Apart.puse (h : Apart w0 B Ts w) (i : Nat) (hi : Ts[i]? = some (PT B q p P)) (hpg : P.pages ≤ 4096) (a : Option Addr) (l : List Int) (n cap : Nat) (hn : l.length = n) (hll : l.length ≤ 140737488355328) (hl : IntsAt w a l) (hla : ∀ x, a = some x → l ≠ [] → x.block < B) :
    Calls Try.prog 78 #[.pointer (some ⟨q, 0, none⟩), .slice a n cap] w fun e w' => e = .returned (.int .i64 (P.whyUse l)) ∧ Apart w0 B (Ts.set i (PT B q p (P.use l))) w' := by
  obtain ⟨F, ⟨vm, hp, rfl⟩, hup⟩ := h.turn i hi
  exact (puse_any hp hpg a l n cap hn hll hl (fun x hx hne e => by have := hla x hx hne; have := hp.hq; omega)).mono fun e w' ⟨he, hp', hm⟩ => ⟨he, hup _ _ ⟨hm.mono (fun k _ e => .inl e), _, ⟨vm, hp', rfl⟩, fun k hk => .inl hk⟩⟩

theorem Apart.pwrite (h : Apart w0 B Ts w) (i d : Nat) (hi : Ts[i]? = some (PT B q p P)) (hd : Ts[d]? = some (DiskT B p D)) (hid : i ≠ d) (hwf : P.wf D) (hlim : D.l.length + 1 ≤ 1048576) (a : Option Addr) (b : List UInt8) (n cap : Nat) (hn : b.length = n) (hb : BytesAt w a b) :
    Calls Try.prog 66 #[.pointer (some ⟨q, 0, none⟩), .slice a n cap] w fun e w' => e = .returned (.tuple #[.int .i64 (P.write D b).1, .int .i64 (P.write D b).2.1]) ∧ Apart w0 B ((Ts.set i (PT B q p (P.write D b).2.2.1)).set d (DiskT B p (P.write D b).2.2.2)) w' := by
  obtain ⟨F, G, ⟨vm, hp, rfl⟩, hD, hFG, hup⟩ := h.turn2 i d hi hd hid
  have hqG : ¬ G q := hFG q (.inl rfl)
  have hmG : ∀ k, vm.ownBlock = some k → ¬ G k := fun k hk => hFG k (.inr hk)
  have key : Calls Try.prog 66 #[.pointer (some ⟨q, 0, none⟩), .slice a n cap] w (WSaid w B B q p vm G (P.write D b)) := by
    unfold Pgr.write
    by_cases hdd : P.dead = true
    · have := pwrite_no hp hD a b n cap hn (.inl hdd)
      rw [if_pos hdd] at this
      rwa [if_pos hdd]
    rw [if_neg hdd]
    by_cases hl : 252 < b.length
    · have := pwrite_no hp hD a b n cap hn (.inr hl)
      rw [if_neg hdd] at this
      rwa [if_pos hl]
    rw [if_neg hl]
    exact pwrite_main hp hD hwf hqG hmG a b n cap hn hb hlim (by simpa using hdd) (by omega)
  refine key.mono ?_
  rintro e w' ⟨he, hp', ⟨G', hD', hG'⟩, hm⟩
  refine ⟨he, hup _ _ _ _ _ (hm.mono (fun k _ e => e.imp .inl id)) ⟨vm, hp', rfl⟩ hD' (fun k hk e => ?_) (fun k hk => .inl hk) hG'⟩
  rcases hG' k e with e | e
  · exact hFG k hk e
  · rcases hk with rfl | hk
    · have := lt_of_block hp.at_; omega
    · have := (World.ownsRow.lt hp.mt k hk).2; omega

theorem FSaid.up {vm : Value} {Fs : Nat → Nat → Prop} {i d : Nat} {e : Ending} {w' : World} {o : Int × Pgr × Dsk} (hFi : Fs i = fun k => k = q ∨ vm.ownBlock = some k) (hp : PgV w B q p vm P) (hqG : ¬ Fs d q)
    (hup : ∀ (S' T' : Thg B) (w' : World) (F' G' : Nat → Prop), Mod (fun k => Fs i k ∨ Fs d k) w w' → S'.at_ w' F' → T'.at_ w' G' → (∀ k, F' k → ¬ G' k) → (∀ k, F' k → Fs i k ∨ w.heap.size ≤ k) → (∀ k, G' k → Fs d k ∨ w.heap.size ≤ k) → Apart w0 B ((Ts.set i S').set d T') w')
    (h : FSaid w B B q p vm (Fs d) o e w') : e = .returned (.int .i64 o.1) ∧ Apart w0 B ((Ts.set i (PT B q p o.2.1)).set d (DiskT B p o.2.2)) w' := by
  obtain ⟨he, vm', G', hp', hD', hG', hv', hm⟩ := h
  refine ⟨he, hup _ _ _ _ _ (hm.mono (fun k _ e => ?_)) ⟨vm', hp', rfl⟩ hD' (fun k hk e => ?_) (fun k hk => ?_) hG'⟩
  · rw [hFi]
    exact e.imp .inl id
  · rcases hk with rfl | hk
    · rcases hG' _ e with e | e
      · exact hqG e
      · have := lt_of_block hp.at_; omega
    · exact (hv' k hk).2 e
  · rw [hFi]
    rcases hk with rfl | hk
    · exact .inl (.inl rfl)
    · exact (hv' k hk).1.imp .inr id

/-- Flip with pages below the mark -/
theorem Apart.pflip (h : Apart w0 B Ts w) (i d : Nat) (hi : Ts[i]? = some (PT B q p P)) (hd : Ts[d]? = some (DiskT B p D)) (hid : i ≠ d) (hwf : P.wf D) (hlim : D.l.length + 1 ≤ 1048576) (hgen : P.root.gen + 1 < 4611686018427387904)
    (page next : Int) (am : Option Addr) (b : List UInt8) (nm cm : Nat) (hnm : b.length = nm) (hbl : b.length ≤ 140737488355328) (ham : am = none → cm = 0) (hb : BytesAt w am b)
    (a : Option Addr) (l : List Int) (n cap : Nat) (hn : l.length = n) (hll : l.length ≤ 140737488355328) (hl : IntsAt w a l) (hla : ∀ x, a = some x → l ≠ [] → x.block < B) :
    Calls Try.prog 68 #[.pointer (some ⟨q, 0, none⟩), .int .i64 page, .int .i64 next, .slice am nm cm, .slice a n cap] w fun e w' => e = .returned (.int .i64 (P.flip D page next b l).1) ∧ Apart w0 B ((Ts.set i (PT B q p (P.flip D page next b l).2.1)).set d (DiskT B p (P.flip D page next b l).2.2)) w' := by
  obtain ⟨Fs, h1, h2, hup⟩ := h.turn2w i d hi hd hid
  obtain ⟨vm, hp, hFi⟩ := h1 i _ hi
  have hD := h1 d _ hd
  have hil : i < Ts.length := (List.getElem?_eq_some_iff.1 hi).1
  have hdl : d < Ts.length := (List.getElem?_eq_some_iff.1 hd).1
  have hqG : ¬ Fs d q := h2 i d hil hdl hid q (by rw [hFi]; exact .inl rfl)
  have hmG : ∀ k, vm.ownBlock = some k → ¬ Fs d k := fun k hk => h2 i d hil hdl hid k (by rw [hFi]; exact .inr hk)
  exact (pflip_any hp hD hwf hqG hmG page next am b nm cm hnm hbl ham hb a l n cap hn hll hl (fun x hx hne => ⟨fun e => by have := hla x hx hne; have := hp.hq; omega, fun e => by have := hla x hx hne; have := (DiskAt.lt hD _ e).1; omega⟩) hlim hgen).mono fun e w' hf => FSaid.up hFi hp hqG hup hf
/-- Flip with pages of a thing -/
theorem Apart.pflipT (h : Apart w0 B Ts w) (i d j : Nat) (hi : Ts[i]? = some (PT B q p P)) (hd : Ts[d]? = some (DiskT B p D)) (hid : i ≠ d) (hwf : P.wf D) (hlim : D.l.length + 1 ≤ 1048576) (hgen : P.root.gen + 1 < 4611686018427387904)
    (page next : Int) (am : Option Addr) (b : List UInt8) (nm cm : Nat) (hnm : b.length = nm) (hbl : b.length ≤ 140737488355328) (ham : am = none → cm = 0) (hb : BytesAt w am b)
    (a : Option Addr) (l : List Int) (n cap : Nat) (hn : l.length = n) (hll : l.length ≤ 140737488355328) (hj : Ts[j]? = some (IntsT B (.slice a n cap) l)) (hji : j ≠ i) (hjd : j ≠ d) :
    Calls Try.prog 68 #[.pointer (some ⟨q, 0, none⟩), .int .i64 page, .int .i64 next, .slice am nm cm, .slice a n cap] w fun e w' => e = .returned (.int .i64 (P.flip D page next b l).1) ∧ Apart w0 B ((Ts.set i (PT B q p (P.flip D page next b l).2.1)).set d (DiskT B p (P.flip D page next b l).2.2)) w' := by
  obtain ⟨Fs, h1, h2, hup⟩ := h.turn2w i d hi hd hid
  obtain ⟨vm, hp, hFi⟩ := h1 i _ hi
  have hD := h1 d _ hd
  obtain ⟨hown, hFj⟩ := h1 j _ hj
  have hil : i < Ts.length := (List.getElem?_eq_some_iff.1 hi).1
  have hdl : d < Ts.length := (List.getElem?_eq_some_iff.1 hd).1
  have hjl : j < Ts.length := (List.getElem?_eq_some_iff.1 hj).1
  have hqG : ¬ Fs d q := h2 i d hil hdl hid q (by rw [hFi]; exact .inl rfl)
  have hmG : ∀ k, vm.ownBlock = some k → ¬ Fs d k := fun k hk => h2 i d hil hdl hid k (by rw [hFi]; exact .inr hk)
  obtain ⟨a', cap', e, -, hl, hbk⟩ := ownsInts_at hown
  cases e
  refine (pflip_any hp hD hwf hqG hmG page next am b nm cm hnm hbl ham hb a l _ cap rfl hll hl (fun x hx hne => ?_) hlim hgen).mono fun e w' hf => FSaid.up hFi hp hqG hup hf
  have hb := hbk x hx hne
  have hfx : Fs j x.block := by rw [hFj]; exact hb
  exact ⟨fun e => h2 j i hjl hil hji _ hfx (by rw [hFi]; exact .inl e), h2 j d hjl hdl hjd _ hfx⟩
end
end Go.Proofs.Ytdinnkacilgmmaa
namespace Go.Proofs.Ytdinnkacilgmmaa
open Go.RowKit

/-! ### a root's sector, read back -/
theorem pad_slot (R : Rt) : pad (slotPre R ++ R.mt) = le 8 R.gen ++ (le 4 (R.page + 1).toNat ++ (le 8 R.next ++ (UInt8.ofNat R.mt.length :: (R.mt ++ List.replicate (252 - (slotPre R ++ R.mt).length) 0)))) := by
  unfold pad
  generalize List.replicate (252 - (slotPre R ++ R.mt).length) (0 : UInt8) = Z
  unfold slotPre
  simp [List.append_assoc]
theorem rootOf_slotB {pages : Nat} (R : Rt) (hg : 1 ≤ R.gen ∧ R.gen ≤ 1152921504606846976) (hp : -1 ≤ R.page ∧ R.page < (pages : Int)) (hpg : pages ≤ 4096) (hn : 1 ≤ R.next ∧ R.next ≤ 1152921504606846976) (hm : R.mt.length ≤ 100) :
    rootOf pages (slotB R) = some R := by
  have h4 : (slotB R).drop 4 = _ := (seal_drop _).trans (pad_slot R)
  have e1 : ((slotB R).drop 4).take 8 = le 8 R.gen := by rw [h4]; exact List.take_left' (le_length _ _)
  have d12 : (slotB R).drop 12 = le 4 (R.page + 1).toNat ++ (le 8 R.next ++ (UInt8.ofNat R.mt.length :: (R.mt ++ List.replicate (252 - (slotPre R ++ R.mt).length) 0))) := by
    rw [show (12 : Nat) = 4 + 8 by rfl, ← List.drop_drop, h4]; exact List.drop_left' (le_length _ _)
  have e2 : ((slotB R).drop 12).take 4 = le 4 (R.page + 1).toNat := by rw [d12]; exact List.take_left' (le_length _ _)
  have d16 : (slotB R).drop 16 = le 8 R.next ++ (UInt8.ofNat R.mt.length :: (R.mt ++ List.replicate (252 - (slotPre R ++ R.mt).length) 0)) := by
    rw [show (16 : Nat) = 12 + 4 by rfl, ← List.drop_drop, d12]; exact List.drop_left' (le_length _ _)
  have e3 : ((slotB R).drop 16).take 8 = le 8 R.next := by rw [d16]; exact List.take_left' (le_length _ _)
  have d24 : (slotB R).drop 24 = UInt8.ofNat R.mt.length :: (R.mt ++ List.replicate (252 - (slotPre R ++ R.mt).length) 0) := by
    rw [show (24 : Nat) = 16 + 8 by rfl, ← List.drop_drop, d16]; exact List.drop_left' (le_length _ _)
  have e4 : (slotB R).getD 24 0 = UInt8.ofNat R.mt.length := by
    have := congrArg (fun l => l[0]?) d24
    simp only [List.getElem?_drop, List.getElem?_cons_zero, Nat.add_zero] at this
    rw [List.getD_eq_getElem?_getD, this]; rfl
  have e5 : ((slotB R).getD 24 0).toNat = R.mt.length := by rw [e4, UInt8.toNat_ofNat']; omega
  have d25 : (slotB R).drop 25 = R.mt ++ List.replicate (252 - (slotPre R ++ R.mt).length) 0 := by
    rw [show (25 : Nat) = 24 + 1 by rfl, ← List.drop_drop, d24]; rfl
  have hs : sound (slotB R) = true := seal_sound _
  have u1 : unle (le 8 R.gen) = R.gen := by rw [unle_le]; omega
  have u2 : unle (le 4 (R.page + 1).toNat) = (R.page + 1).toNat := by rw [unle_le]; omega
  have u3 : unle (le 8 R.next) = R.next := by rw [unle_le]; omega
  unfold rootOf
  rw [e1, e2, e3, e5, u1, u2, u3, d25, List.take_left, if_pos ⟨hs, hg.1, hg.2, by omega, hn.1, hn.2, hm⟩]
  have : ((R.page + 1).toNat : Int) - 1 = R.page := by omega
  rw [this]
theorem rootOf_pos {pages : Nat} {s : List UInt8} {x : Rt} (h : rootOf pages s = some x) : 1 ≤ x.gen ∧ x.gen ≤ 1152921504606846976 := by
  unfold rootOf at h
  split at h
  · rename_i c
    injection h with h
    subst h
    exact ⟨c.2.1, c.2.2.1⟩
  · cases h
theorem unle_noughts (n : Nat) : unle (List.replicate n 0) = 0 := by
  induction n with
  | zero => rfl
  | succ n ih => rw [List.replicate_succ]; simp only [unle, ih]; rfl
theorem rootOf_zeros (pages : Nat) : rootOf pages (List.replicate 256 0) = none := by
  unfold rootOf
  rw [if_neg]
  rintro ⟨-, h, -⟩
  rw [List.drop_replicate, List.take_replicate, unle_noughts] at h
  omega

/-! ### sectors that are left alone -/
theorem sector_layAll_off (l : List (Nat × List UInt8)) (n : Nat) : ∀ (s : List UInt8), (∀ x ∈ l, x.1 * 256 + x.2.length ≤ s.length ∧ x.2.length ≤ 256) → (∀ x ∈ l, x.1 ≠ n) → sector (layAll s l) n = sector s n := by
  induction l with
  | nil => intro s _ _; rfl
  | cons x r ih =>
    intro s h hne
    have h0 := h x List.mem_cons_self
    show sector (layAll (lay s x.1 x.2) r) n = _
    rw [ih _ (fun y hy => by rw [lay_length _ _ _ h0.1]; exact h y (List.mem_cons_of_mem _ hy)) (fun y hy => hne y (List.mem_cons_of_mem _ hy))]
    exact sector_lay_off s x.1 n x.2 h0.1 h0.2 (hne x List.mem_cons_self).symm
theorem sector_crashed_off (l : List (Nat × List UInt8)) (n : Nat) : ∀ (s : List UInt8) (ks : List Int), (∀ x ∈ l, x.1 * 256 + x.2.length ≤ s.length ∧ x.2.length ≤ 256) → (∀ x ∈ l, x.1 ≠ n) → sector (crashed s l ks) n = sector s n := by
  induction l with
  | nil => intro s ks _ _; rfl
  | cons x r ih =>
    intro s ks h hne
    have h0 := h x List.mem_cons_self
    have hl : (x.2.take (clamp (ks.headD 0))).length ≤ x.2.length := List.length_take_le' _ _
    show sector (crashed (lay s x.1 (x.2.take (clamp (ks.headD 0)))) r ks.tail) n = _
    rw [ih _ _ (fun y hy => by rw [lay_length _ _ _ (by omega)]; exact h y (List.mem_cons_of_mem _ hy)) (fun y hy => hne y (List.mem_cons_of_mem _ hy))]
    exact sector_lay_off s x.1 n _ (by omega) (by omega) (hne x List.mem_cons_self).symm
theorem Dsk.wf.fit2 {D : Dsk} (h : D.wf) : ∀ x ∈ D.l, x.1 * 256 + x.2.length ≤ D.safe.length ∧ x.2.length ≤ 256 := fun x hx => ⟨h.fit x hx, by rw [(h.l x hx).2]; exact Nat.le_refl _⟩
theorem dwrite_ok {D : Dsk} (h : D.wf) {n : Nat} {b : List UInt8} (hn : n < D.N) (hb : b.length = 256) (hg : D.gone = false) (hf : D.full = false) :
    D.why (n : Int) b = 0 ∧ D.write (n : Int) b = { D with l := D.l ++ [(n, b)] } ∧ sector (D.write (n : Int) b).now n = b ∧ ∀ m, m ≠ n → sector (D.write (n : Int) b).now m = sector D.now m := by
  have h0 : D.why (n : Int) b = 0 := by
    unfold Dsk.why
    rw [if_neg (by rw [hg]; decide), if_neg (by omega), if_neg (by omega), if_neg (by rw [hf]; decide)]
  have h1 : D.write (n : Int) b = { D with l := D.l ++ [(n, b)] } := by
    unfold Dsk.write
    rw [if_pos h0, sect_full b hb, Int.toNat_natCast]
  have hn2 : (D.write (n : Int) b).now = lay D.now n b := by
    rw [h1]
    show layAll D.safe (D.l ++ [(n, b)]) = _
    rw [layAll_snoc]; rfl
  have hlen : n * 256 + 256 ≤ D.now.length := by rw [h.now, h.len]; omega
  refine ⟨h0, h1, ?_, fun m hm => ?_⟩
  · rw [hn2]; exact sector_lay_at _ _ _ hlen hb
  · rw [hn2]; exact sector_lay_off _ _ _ _ (by omega) (by omega) hm

/-! ### the best root -/
def SlotsOk (pages frm : Nat) (R : Rt) (s : List UInt8) : Prop :=
  (∀ i, i < 2 → ∀ x, rootOf pages (sector s (frm + i)) = some x → x.gen ≤ R.gen ∧ (x.gen = R.gen → x = R)) ∧ (R = Rt.none ∨ ∃ i, i < 2 ∧ rootOf pages (sector s (frm + i)) = some R)
theorem SlotsOk.best {pages frm : Nat} {R : Rt} {s : List UInt8} (h : SlotsOk pages frm R s) (D : Dsk) (hD : ∀ i, i < 2 → sector D.now (frm + i) = sector s (frm + i)) : bestAt pages frm D 2 = R := by
  obtain ⟨h1, h2⟩ := h
  have a0 := h1 0 (by decide)
  have a1 := h1 1 (by decide)
  show (Rt.none.better (rootOf pages (sector D.now (frm + 0)))).better (rootOf pages (sector D.now (frm + 1))) = R
  rw [hD 0 (by decide), hD 1 (by decide)]
  have better_none : ∀ r : Rt, r.better Option.none = r := fun _ => rfl
  have better_some : ∀ (r x : Rt), r.better (some x) = if r.gen < x.gen then x else r := fun _ _ => rfl
  have n0 : Rt.none.gen = 0 := rfl
  rcases h2 with rfl | ⟨i, hi, hR⟩
  · have e0 : rootOf pages (sector s (frm + 0)) = none := by
      cases e : rootOf pages (sector s (frm + 0)) with
      | none => rfl
      | some x => have := (a0 x e).1; have := (rootOf_pos e).1; omega
    have e1 : rootOf pages (sector s (frm + 1)) = none := by
      cases e : rootOf pages (sector s (frm + 1)) with
      | none => rfl
      | some x => have := (a1 x e).1; have := (rootOf_pos e).1; omega
    rw [e0, e1]; rfl
  · have hpos := (rootOf_pos hR).1
    have hi' : i = 0 ∨ i = 1 := by omega
    rcases hi' with rfl | rfl
    · rw [hR, better_some, if_pos (by omega)]
      cases e : rootOf pages (sector s (frm + 1)) with
      | none => rfl
      | some x => rw [better_some, if_neg (by have := (a1 x e).1; omega)]
    · rw [hR]
      cases e : rootOf pages (sector s (frm + 0)) with
      | none => rw [better_none, better_some, if_pos (by omega)]
      | some x =>
        have hx := a0 x e
        have hp := (rootOf_pos e).1
        rw [better_some Rt.none x, if_pos (by omega), better_some x R]
        split
        · rfl
        · exact hx.2 (by omega)
end Go.Proofs.Ytdinnkacilgmmaa
namespace Go.Proofs.Ytdinnkacilgmmaa
open Go.RowKit

/-- a pager on a disk that is not full; was: what was written on each page -/
structure PInv (P : Pgr) (D : Dsk) (was : Nat → List UInt8) : Prop where
  pw : P.wf D
  dw : D.wf
  full : D.full = false
  dead : D.gone = P.dead
  slots : SlotsOk P.pages P.frm P.root D.safe
  l : ∀ x ∈ D.l, P.frm + 2 ≤ x.1 ∧ ∀ n, x.1 = P.frm + 2 + n → P.is_.getD n 0 ≠ 1
  now : ∀ n, n < P.pages → P.is_.getD n 0 ≠ 0 → sector D.now (P.frm + 2 + n) = seal_ (was n) ∧ (was n).length ≤ 252

section
variable {P : Pgr} {D : Dsk} {was : Nat → List UInt8} {page next : Int} {m : List UInt8} {l : List Int}

theorem getD_set (s : List UInt8) (i j : Nat) (c : UInt8) (h : i < s.length) : (s.set i c).getD j 0 = if j = i then c else s.getD j 0 := by
  rw [List.getD_eq_getElem?_getD, List.getD_eq_getElem?_getD, List.getElem?_set]
  by_cases e : i = j
  · subst e; simp [h]
  · rw [if_neg e, if_neg (Ne.symm e)]

theorem empties_first (P : Pgr) (h : P.empties.length ≠ 0) : P.empties.getD 0 0 < P.pages ∧ P.is_.getD (P.empties.getD 0 0) 0 = 0 := by
  have hm : P.empties.getD 0 0 ∈ P.empties := by
    rw [List.getD_eq_getElem?_getD, List.getElem?_eq_getElem (by omega)]
    exact List.getElem_mem _
  unfold Pgr.empties at hm ⊢
  rw [List.mem_filter, List.mem_range] at hm
  exact ⟨hm.1, by simpa [freeAt] using hm.2⟩

theorem PInv.write (h : PInv P D was) (b : List UInt8) :
    ((P.write D b).2.1 = 0 → ∃ e : Nat, (P.write D b).1 = (e : Int) ∧ e < P.pages ∧ P.is_.getD e 0 = 0 ∧ b.length ≤ 252 ∧ (P.write D b).2.2.1 = { P with is_ := P.is_.set e 2 } ∧ (P.write D b).2.2.2.l.length ≤ D.l.length + 1 ∧ e = P.empties.getD 0 0 ∧
      PInv (P.write D b).2.2.1 (P.write D b).2.2.2 (fun n => if n = e then b else was n)) ∧
    ((P.write D b).2.1 ≠ 0 → (P.write D b).2.2.1 = P ∧ (P.write D b).2.2.2 = D) := by
  by_cases h1 : P.dead = true
  · have e : P.write D b = (0, 21, P, D) := by unfold Pgr.write; rw [if_pos h1]
    rw [e]
    exact ⟨fun h => absurd (show (21 : Int) = 0 from h) (by decide), fun _ => ⟨rfl, rfl⟩⟩
  by_cases h2 : 252 < b.length
  · have e : P.write D b = (0, 3, P, D) := by unfold Pgr.write; rw [if_neg h1, if_pos h2]
    rw [e]
    exact ⟨fun h => absurd (show (3 : Int) = 0 from h) (by decide), fun _ => ⟨rfl, rfl⟩⟩
  by_cases h3 : P.empties.length = 0
  · have e : P.write D b = (0, 4, P, D) := by unfold Pgr.write; rw [if_neg h1, if_neg h2, if_pos h3]
    rw [e]
    exact ⟨fun h => absurd (show (4 : Int) = 0 from h) (by decide), fun _ => ⟨rfl, rfl⟩⟩
  obtain ⟨he, hf⟩ := empties_first P h3
  obtain ⟨e, hE⟩ : ∃ e, e = P.empties.getD 0 0 := ⟨_, rfl⟩
  rw [← hE] at he hf
  have hfit := h.pw.fit
  have hn : P.frm + 2 + e < D.N := by omega
  obtain ⟨w1, w2, w3, w4⟩ := dwrite_ok h.dw hn (seal_length b (by omega)) (by rw [h.dead]; simpa using h1) h.full
  have ew : P.write D b = ((e : Int), 0, { P with is_ := P.is_.set e 2 }, D.write ((P.frm + 2 + e : Nat) : Int) (seal_ b)) := by
    unfold Pgr.write Pgr.writeAt
    rw [if_neg h1, if_neg h2, if_neg h3, ← hE, if_pos w1]
  rw [ew]
  have htop := h.pw.top
  have hlen := h.pw.len
  refine ⟨fun _ => ⟨e, rfl, he, hf, by omega, rfl, by rw [w2]; simp, hE, ⟨⟨by show (P.is_.set e 2).length = 4096; rw [List.length_set, hlen], by rw [w2]; exact hfit, by rw [w2]; exact htop, h.pw.pos, h.pw.root⟩, ?_, by rw [w2]; exact h.full, by rw [w2]; exact h.dead, by rw [w2]; exact h.slots, ?_, ?_⟩⟩, fun h => absurd rfl h⟩
  · rw [w2]
    exact ⟨h.dw.len, h.dw.pos, h.dw.top, fun x hx => by
      rcases List.mem_append.1 hx with hx | hx
      · exact h.dw.l x hx
      · rw [List.mem_singleton] at hx; subst hx; exact ⟨hn, seal_length b (by omega)⟩⟩
  · rw [w2]
    intro x hx
    show P.frm + 2 ≤ x.1 ∧ ∀ n, x.1 = P.frm + 2 + n → (P.is_.set e 2).getD n 0 ≠ 1
    rcases List.mem_append.1 hx with hx | hx
    · refine ⟨(h.l x hx).1, fun n hn => ?_⟩
      rw [getD_set _ _ _ _ (by omega)]
      split
      · decide
      · exact (h.l x hx).2 n hn
    · rw [List.mem_singleton] at hx; subst hx
      refine ⟨by show P.frm + 2 ≤ P.frm + 2 + e; omega, fun n hn => ?_⟩
      have hne : n = e := by have : P.frm + 2 + e = P.frm + 2 + n := hn; omega
      rw [getD_set _ _ _ _ (by omega), if_pos hne]
      decide
  · intro n hn hi
    show sector (D.write ((P.frm + 2 + e : Nat) : Int) (seal_ b)).now (P.frm + 2 + n) = seal_ (if n = e then b else was n) ∧ (if n = e then b else was n).length ≤ 252
    by_cases hne : n = e
    · subst hne
      rw [if_pos rfl]
      exact ⟨w3, by omega⟩
    · rw [if_neg hne, w4 _ (by omega)]
      have hi' : (P.is_.set e 2).getD n 0 ≠ 0 := hi
      rw [getD_set _ _ _ _ (by omega), if_neg hne] at hi'
      exact h.now n hn hi'

theorem PInv.release (h : PInv P D was) (n : Int) : PInv (P.release n) D was ∧ (P.release n).root = P.root ∧ (P.release n).frm = P.frm ∧ (P.release n).pages = P.pages ∧ (P.release n).dead = P.dead := by
  unfold Pgr.release
  split
  · rename_i hc
    have ht : 0 ≤ n ∧ n < (P.pages : Int) := of_decide_eq_true hc.1
    have hlen := h.pw.len
    have hfit := h.pw.fit
    have htop := h.pw.top
    have hm : n.toNat < P.is_.length := by omega
    refine ⟨⟨⟨by show (P.is_.set _ _).length = 4096; rw [List.length_set, hlen], hfit, htop, h.pw.pos, h.pw.root⟩, h.dw, h.full, h.dead, h.slots, fun x hx => ⟨(h.l x hx).1, fun k hk => ?_⟩, fun k hk hi => ?_⟩, rfl, rfl, rfl, rfl⟩
    · show (P.is_.set n.toNat 0).getD k 0 ≠ 1
      rw [getD_set _ _ _ _ hm]
      split
      · decide
      · exact (h.l x hx).2 k hk
    · have hi' : (P.is_.set n.toNat 0).getD k 0 ≠ 0 := hi
      rw [getD_set _ _ _ _ hm] at hi'
      split at hi'
      · exact absurd rfl hi'
      · exact h.now k hk hi'
  · exact ⟨h, rfl, rfl, rfl, rfl⟩

theorem PInv.fail (h : PInv P D was) : PInv P { D with bad := true } was := ⟨⟨h.pw.len, h.pw.fit, h.pw.top, h.pw.pos, h.pw.root⟩, ⟨h.dw.len, h.dw.pos, h.dw.top, h.dw.l⟩, h.full, h.dead, h.slots, h.l, h.now⟩

theorem PInv.read (h : PInv P D was) (n : Nat) (hn : n < P.pages) (hi : P.is_.getD n 0 ≠ 0) : P.read D (n : Int) = (pad (was n), 0) := by
  obtain ⟨h1, h2⟩ := h.now n hn hi
  have ht : P.there (n : Int) = true := decide_eq_true ⟨by omega, by omega⟩
  unfold Pgr.read
  rw [if_pos ht, Int.toNat_natCast, h1, if_pos (seal_sound _), seal_drop]

/-- a used page is safe -/
theorem PInv.safe (h : PInv P D was) (n : Nat) (hn : n < P.pages) (hi : P.is_.getD n 0 = 1) : sector D.safe (P.frm + 2 + n) = seal_ (was n) := by
  rw [← (h.now n hn (by rw [hi]; decide)).1]
  exact (sector_layAll_off D.l _ D.safe h.dw.fit2 (fun x hx e => (h.l x hx).2 n e hi)).symm

theorem PInv.crash (h : PInv P D was) (ks : List Int) : (Pgr.opened P.frm (P.pages + 2) (D.crash ks)).root = P.root ∧
    ∀ n, n < P.pages → P.is_.getD n 0 = 1 → (Pgr.opened P.frm (P.pages + 2) (D.crash ks)).read (D.crash ks) (n : Int) = (pad (was n), 0) := by
  have hnow : (D.crash ks).now = crashed D.safe D.l ks := rfl
  refine ⟨?_, fun n hn hi => ?_⟩
  · show bestAt (P.pages + 2 - 2) P.frm (D.crash ks) 2 = P.root
    rw [Nat.add_sub_cancel]
    refine h.slots.best _ (fun i hi => ?_)
    rw [hnow]
    exact sector_crashed_off D.l _ D.safe ks h.dw.fit2 (fun x hx e => by have := (h.l x hx).1; omega)
  · have ht : (Pgr.opened P.frm (P.pages + 2) (D.crash ks)).there (n : Int) = true := decide_eq_true ⟨by omega, by show (n : Int) < ((P.pages + 2 - 2 : Nat) : Int); omega⟩
    unfold Pgr.read
    rw [if_pos ht, Int.toNat_natCast, hnow]
    have e : sector (crashed D.safe D.l ks) ((Pgr.opened P.frm (P.pages + 2) (D.crash ks)).frm + 2 + n) = seal_ (was n) := by
      rw [← h.safe n hn hi]
      exact sector_crashed_off D.l _ D.safe ks h.dw.fit2 (fun x hx e => (h.l x hx).2 n e hi)
    rw [e, if_pos (seal_sound _), seal_drop]

theorem setAll_get (l : List Int) (n : Nat) (hn : n < 4096) : ∀ (s : List UInt8), s.length = 4096 → (∀ x ∈ l, 0 ≤ x ∧ x < 4096) → (setAll l s).getD n 0 = if (n : Int) ∈ l then 1 else s.getD n 0 := by
  induction l with
  | nil => intro s _ _; rfl
  | cons x r ih =>
    intro s hs hl
    have hx := hl x List.mem_cons_self
    show (setAll r (s.set x.toNat 1)).getD n 0 = _
    rw [ih _ (by rw [List.length_set, hs]) (fun y hy => hl y (List.mem_cons_of_mem _ hy)), getD_set _ _ _ _ (by omega)]
    by_cases h1 : (n : Int) ∈ r
    · rw [if_pos h1, if_pos (List.mem_cons_of_mem _ h1)]
    · rw [if_neg h1]
      by_cases h2 : n = x.toNat
      · rw [if_pos h2, if_pos (by rw [show (n : Int) = x by omega]; exact List.mem_cons_self)]
      · rw [if_neg h2, if_neg]
        rw [List.mem_cons]
        rintro (e | e)
        · omega
        · exact h1 e
theorem zeros4096_get (n : Nat) : zeros4096.getD n 0 = 0 := by
  unfold zeros4096
  rw [List.getD_eq_getElem?_getD, List.getElem?_replicate]
  split <;> rfl

theorem dsync_ok {D : Dsk} (hg : D.gone = false) (hb : D.bad = false) : D.whySync = 0 ∧ D.sync = { D with safe := D.now, l := [] } := by
  unfold Dsk.whySync Dsk.sync
  rw [if_neg (by rw [hg]; decide), if_neg (by rw [hb]; decide), if_neg (by rw [hg]; decide), if_neg (by rw [hb]; decide)]
  exact ⟨rfl, rfl⟩
theorem dsync_bad {D : Dsk} (hg : D.gone = false) (hb : D.bad = true) : D.whySync = 20 ∧ D.sync = { D with gone := true } := by
  unfold Dsk.whySync Dsk.sync
  rw [if_neg (by rw [hg]; decide), if_pos hb, if_neg (by rw [hg]; decide), if_pos hb]
  exact ⟨rfl, rfl⟩
theorem dsync_wf {D : Dsk} (h : D.wf) : ({ D with safe := D.now, l := [] } : Dsk).wf := ⟨by show D.now.length = D.now.length / 256 * 256; rw [h.now]; exact h.len, by show 1 ≤ D.now.length / 256; rw [h.now]; exact h.pos, by show D.now.length / 256 ≤ 4096; rw [h.now]; exact h.top, fun x hx => by cases hx⟩

theorem whyFlip_ok (h : P.whyFlip page next m l = 0) : P.dead = false ∧ (-1 ≤ page ∧ page < (P.pages : Int)) ∧ (1 ≤ next ∧ next ≤ 1152921504606846976) ∧ (∀ x ∈ l, ∃ n : Nat, x = (n : Int) ∧ n < P.pages ∧ P.is_.getD n 0 ≠ 0) ∧ m.length ≤ 100 := by
  unfold Pgr.whyFlip at h
  split at h
  · cases h
  rename_i h1
  split at h
  · cases h
  rename_i h2
  split at h
  · cases h
  rename_i h3
  split at h
  · cases h
  rename_i h4
  have hargs : (page = -1 ∨ P.there page = true) ∧ 1 ≤ next ∧ next ≤ 1152921504606846976 := by
    have h2' : P.badArgs page next = false := by simpa using h2
    unfold Pgr.badArgs at h2'
    simp only [Bool.or_eq_false_iff, Bool.and_eq_false_iff, decide_eq_false_iff_not, bne_eq_false_iff_eq, Bool.not_eq_false'] at h2'
    exact ⟨h2'.1.1, by omega, by omega⟩
  refine ⟨by simpa using h1, ?_, hargs.2, fun x hx => ?_, by omega⟩
  · rcases hargs.1 with e | e
    · omega
    · have h5 : 0 ≤ page ∧ page < (P.pages : Int) := of_decide_eq_true e
      omega
  · have h3' : l.any P.noFlip = false := by simpa using h3
    have h5 := List.any_eq_false.1 h3' x hx
    unfold Pgr.noFlip at h5
    simp only [Bool.or_eq_true, Bool.not_eq_true', beq_iff_eq, not_or, Bool.not_eq_false] at h5
    have h6 : 0 ≤ x ∧ x < (P.pages : Int) := of_decide_eq_true h5.1
    exact ⟨x.toNat, by omega, by omega, h5.2⟩

theorem PInv.flip (h : PInv P D was) (page next : Int) (m : List UInt8) (l : List Int) (hgen : P.root.gen + 1 ≤ 1152921504606846976) :
    ((P.flip D page next m l).1 = 0 → P.whyFlip page next m l = 0 ∧ D.bad = false ∧ (P.flip D page next m l).2.1 = { P with root := P.toFlip page next m, is_ := setAll l zeros4096 } ∧ (P.flip D page next m l).2.2.l = [] ∧ (P.flip D page next m l).2.2.bad = false ∧ PInv (P.flip D page next m l).2.1 (P.flip D page next m l).2.2 was) ∧
    ((P.flip D page next m l).1 ≠ 0 → (P.flip D page next m l).2.1.root = P.root ∧ (P.flip D page next m l).2.1.is_ = P.is_ ∧ (P.flip D page next m l).2.1.frm = P.frm ∧ (P.flip D page next m l).2.1.pages = P.pages ∧ (P.flip D page next m l).2.2.l = D.l ∧ PInv (P.flip D page next m l).2.1 (P.flip D page next m l).2.2 was ∧ (P.whyFlip page next m l ≠ 0 ∨ D.bad = true)) := by
  by_cases hw : P.whyFlip page next m l = 0
  · obtain ⟨hd, hp, hn, hl, hm⟩ := whyFlip_ok hw
    have hg : D.gone = false := by rw [h.dead, hd]
    have hfit := h.pw.fit
    have htop := h.pw.top
    have hpg : P.pages ≤ 4096 := by omega
    cases hb : D.bad with
    | true =>
      obtain ⟨s1, s2⟩ := dsync_bad hg hb
      have hne : D.whySync ≠ 0 := by rw [s1]; decide
      have e : P.flip D page next m l = (20, { P with dead := true }, { D with gone := true }) := by
        unfold Pgr.flip
        rw [if_neg (by rw [hw]; decide), flipD_no _ _ hne]
        simp only
        rw [if_neg hne, s1, s2]
      rw [e]
      exact ⟨fun h => absurd (show (20 : Int) = 0 from h) (by decide), fun _ => ⟨rfl, rfl, rfl, rfl, rfl, ⟨⟨h.pw.len, hfit, htop, h.pw.pos, h.pw.root⟩, ⟨h.dw.len, h.dw.pos, h.dw.top, h.dw.l⟩, h.full, rfl, h.slots, h.l, h.now⟩, .inr rfl⟩⟩
    | false =>
      obtain ⟨s1, s2⟩ := dsync_ok hg hb
      obtain ⟨g, hgg⟩ : ∃ g, g = (P.root.gen + 1) % 2 := ⟨_, rfl⟩
      have hg2 : g < 2 := by omega
      have hR : (P.toFlip page next m).ok := ⟨by show P.root.gen + 1 < _; omega, by show -1 ≤ page ∧ page ≤ 4096; omega, by show next.toNat < _; omega, hm⟩
      have hsl := slotB_length _ hR
      have hwf1 := dsync_wf h.dw
      have hN1 : ({ D with safe := D.now, l := [] } : Dsk).N = D.N := by show D.now.length / 256 = D.safe.length / 256; rw [h.dw.now]
      obtain ⟨w1, w2, w3, w4⟩ := dwrite_ok hwf1 (n := P.frm + g) (by rw [hN1]; omega) hsl hg h.full
      obtain ⟨D2, hD2⟩ : ∃ D2, D2 = ({ D with safe := D.now, l := [] } : Dsk).write ((P.frm + g : Nat) : Int) (slotB (P.toFlip page next m)) := ⟨_, rfl⟩
      rw [← hD2] at w2 w3 w4
      have hD2g : D2.gone = false := by rw [w2]; exact hg
      have hD2b : D2.bad = false := by rw [w2]; exact hb
      have hD2f : D2.full = false := by rw [w2]; exact h.full
      have hwf2 : D2.wf := by
        rw [w2]
        exact ⟨hwf1.len, hwf1.pos, hwf1.top, fun x hx => by
          have hx' : x = (P.frm + g, slotB (P.toFlip page next m)) := by simpa using hx
          subst hx'
          exact ⟨by show P.frm + g < ({ D with safe := D.now, l := [] } : Dsk).N; rw [hN1]; omega, hsl⟩⟩
      obtain ⟨t1, t2⟩ := dsync_ok hD2g hD2b
      have hwf3 := dsync_wf hwf2
      have e : P.flip D page next m l = (0, { P with root := P.toFlip page next m, is_ := setAll l zeros4096 }, { D2 with safe := D2.now, l := [] }) := by
        have ef : flipD D ((P.frm + g : Nat) : Int) (slotB (P.toFlip page next m)) = (D2.whySync, D2.sync) := by
          rw [flipD_ok _ _ s1, s2, if_neg (fun hne => hne w1), ← hD2]
        unfold Pgr.flip
        rw [if_neg (by rw [hw]; decide), ← hgg, ef, if_pos t1, t2]
      rw [e]
      have hall : ∀ x ∈ l, 0 ≤ x ∧ x < 4096 := fun x hx => by obtain ⟨n, rfl, h1, -⟩ := hl x hx; omega
      have hN3 : ({ D2 with safe := D2.now, l := [] } : Dsk).N = D.N := by
        show D2.now.length / 256 = _
        rw [hwf2.now, w2]
        exact hN1
      have hsec : ∀ k, k ≠ P.frm + g → sector D2.now k = sector D.now k := fun k hk => (w4 k hk).trans rfl
      have hslot : ∀ i, i < 2 → sector D.now (P.frm + i) = sector D.safe (P.frm + i) := fun i hi => sector_layAll_off D.l _ D.safe h.dw.fit2 (fun x hx e => by have := (h.l x hx).1; omega)
      refine ⟨fun _ => ⟨hw, rfl, rfl, rfl, hD2b, ⟨⟨by show (setAll l zeros4096).length = 4096; rw [setAll_length, zeros4096_length], by rw [hN3]; exact hfit, by rw [hN3]; exact htop, h.pw.pos, hR⟩, hwf3, hD2f, by show D2.gone = P.dead; rw [hD2g, hd], ⟨?_, ?_⟩, (fun x hx => by cases hx), ?_⟩⟩, fun h => absurd rfl h⟩
      · intro i hi x hx
        show x.gen ≤ P.root.gen + 1 ∧ (x.gen = P.root.gen + 1 → x = P.toFlip page next m)
        have hx' : rootOf P.pages (sector D2.now (P.frm + i)) = some x := hx
        by_cases hig : i = g
        · rw [hig, w3, rootOf_slotB _ ⟨by show 1 ≤ P.root.gen + 1; omega, hgen⟩ hp hpg ⟨by show 1 ≤ next.toNat; omega, by show next.toNat ≤ _; omega⟩ hm] at hx'
          cases hx'
          exact ⟨Nat.le_refl _, fun _ => rfl⟩
        · rw [hsec _ (by omega), hslot i hi] at hx'
          have := (h.slots.1 i hi x hx').1
          exact ⟨by omega, fun e => by omega⟩
      · refine .inr ⟨g, hg2, ?_⟩
        show rootOf P.pages (sector D2.now (P.frm + g)) = some (P.toFlip page next m)
        rw [w3]
        exact rootOf_slotB _ ⟨by show 1 ≤ P.root.gen + 1; omega, hgen⟩ hp hpg ⟨by show 1 ≤ next.toNat; omega, by show next.toNat ≤ _; omega⟩ hm
      · intro n hn hi
        have hi' : (setAll l zeros4096).getD n 0 ≠ 0 := hi
        rw [setAll_get l n (by have : n < P.pages := hn; omega) _ zeros4096_length hall, zeros4096_get] at hi'
        have hmem : (n : Int) ∈ l := by
          by_cases hc : (n : Int) ∈ l
          · exact hc
          · rw [if_neg hc] at hi'; exact absurd rfl hi'
        obtain ⟨k, e1, e2, e3⟩ := hl _ hmem
        obtain rfl : n = k := by omega
        show sector D2.now (P.frm + 2 + n) = _ ∧ _
        rw [hsec _ (by omega)]
        exact h.now n e2 e3
  · have e : P.flip D page next m l = (P.whyFlip page next m l, P, D) := by unfold Pgr.flip; rw [if_pos hw]
    rw [e]
    exact ⟨fun h => absurd h hw, fun _ => ⟨rfl, rfl, rfl, rfl, rfl, h, .inl hw⟩⟩
end
end Go.Proofs.Ytdinnkacilgmmaa
namespace Go.Proofs.Ytdinnkacilgmmaa
open Go.RowKit

theorem zeros_sec (N i : Nat) (h : i < N) : sector (List.replicate (N * 256) (0 : UInt8)) i = List.replicate 256 0 := by
  unfold sector
  rw [List.drop_replicate, List.take_replicate]
  congr 1
  omega
theorem opened_zeros (N : Nat) (h3 : 3 ≤ N) : Pgr.opened 0 N (Dsk.of (List.replicate (N * 256) 0)) = ⟨0, N - 2, zeros4096, Rt.none, false⟩ := by
  unfold Pgr.opened
  have e : ∀ i, i < 2 → rootOf (N - 2) (sector (Dsk.of (List.replicate (N * 256) 0)).now (0 + i)) = none := fun i hi => by
    show rootOf (N - 2) (sector (List.replicate (N * 256) 0) (0 + i)) = none
    rw [zeros_sec N _ (by omega)]
    exact rootOf_zeros _
  have : bestAt (N - 2) 0 (Dsk.of (List.replicate (N * 256) 0)) 2 = Rt.none := by
    show (Rt.none.better (rootOf (N - 2) (sector (Dsk.of (List.replicate (N * 256) 0)).now (0 + 0)))).better (rootOf (N - 2) (sector (Dsk.of (List.replicate (N * 256) 0)).now (0 + 1))) = _
    rw [e 0 (by decide), e 1 (by decide)]
    rfl
  rw [this]
theorem PInv.start (N : Nat) (h3 : 3 ≤ N) (hN : N ≤ 4096) (was : Nat → List UInt8) : PInv ⟨0, N - 2, zeros4096, Rt.none, false⟩ (Dsk.of (List.replicate (N * 256) 0)) was := by
  have hn : (Dsk.of (List.replicate (N * 256) 0)).N = N := by simp [Dsk.of, Dsk.N]
  have hwf : (Dsk.of (List.replicate (N * 256) 0)).wf := Dsk.of_wf _ (by rw [List.length_replicate]; unfold imageOk; omega)
  refine ⟨⟨zeros4096_length, by rw [hn]; show 0 + 2 + (N - 2) ≤ N; omega, by rw [hn]; exact hN, by show 1 ≤ N - 2; omega, Rt.none_ok⟩, hwf, rfl, rfl, ⟨fun i hi x hx => ?_, .inl rfl⟩, (fun x hx => by cases hx), fun n _ hi => ?_⟩
  · have hx' : rootOf (N - 2) (sector (List.replicate (N * 256) 0) (0 + i)) = some x := hx
    rw [zeros_sec N _ (by omega), rootOf_zeros] at hx'
    cases hx'
  · exact absurd (zeros4096_get n) hi

theorem empties_is (P : Pgr) (n : Nat) (hn : n < P.pages) (h0 : P.is_.getD n 0 = 0) (hl : ∀ k, k < n → P.is_.getD k 0 ≠ 0) : P.empties.getD 0 0 = n ∧ P.empties.length ≠ 0 := by
  have hf : freeAt P n = true := by unfold freeAt; rw [h0]; rfl
  have he : (List.range n).filter (freeAt P) = [] := by
    rw [List.filter_eq_nil_iff]
    intro k hk
    rw [List.mem_range] at hk
    simpa [freeAt] using hl k hk
  obtain ⟨h1, h2⟩ := empties_at P n hn hf
  rw [he] at h1 h2
  exact ⟨h1, by simp at h2; omega⟩

theorem PInv.writeFirst {P : Pgr} {D : Dsk} {was : Nat → List UInt8} (h : PInv P D was) (hd : P.dead = false) (b : List UInt8) (hb : b.length ≤ 252) (n : Nat) (hn : n < P.pages) (h0 : P.is_.getD n 0 = 0) (hl : ∀ k, k < n → P.is_.getD k 0 ≠ 0) :
    (P.write D b).1 = (n : Int) ∧ (P.write D b).2.1 = 0 ∧ (P.write D b).2.2.1 = { P with is_ := P.is_.set n 2 } ∧ (P.write D b).2.2.2.l.length ≤ D.l.length + 1 ∧ PInv (P.write D b).2.2.1 (P.write D b).2.2.2 (fun k => if k = n then b else was k) := by
  obtain ⟨e1, e2⟩ := empties_is P n hn h0 hl
  have hw := h.write b
  have hc : (P.write D b).2.1 = 0 := by
    have hfit := h.pw.fit
    obtain ⟨w1, -, -, -⟩ := dwrite_ok h.dw (n := P.frm + 2 + n) (by omega) (seal_length b hb) (by rw [h.dead, hd]) h.full
    unfold Pgr.write Pgr.writeAt
    rw [if_neg (by rw [hd]; decide), if_neg (by omega), if_neg e2, e1, if_pos w1]
  obtain ⟨e, h1, h2, h3, h4, h5, h6, h7, h8⟩ := hw.1 hc
  rw [e1] at h7
  subst h7
  exact ⟨h1, hc, h5, h6, h8⟩

/-! ### how many are free -/
end Go.Proofs.Ytdinnkacilgmmaa
namespace Go.Proofs.Ytdinnkacilgmmaa
open Go.RowKit

theorem pwrite_bad (P : Pgr) (D : Dsk) (b : List UInt8) : (P.write D b).2.2.2.bad = D.bad := by
  have hd : ∀ n c, (D.write n c).bad = D.bad := fun n c => by unfold Dsk.write; split <;> rfl
  unfold Pgr.write
  split
  · rfl
  split
  · rfl
  split
  · rfl
  unfold Pgr.writeAt
  split
  · exact hd _ _
  · exact hd _ _
theorem PInv.flipOk {P : Pgr} {D : Dsk} {was : Nat → List UInt8} (h : PInv P D was) {page next : Int} {m : List UInt8} {l : List Int} (hgen : P.root.gen + 1 ≤ 1152921504606846976) (hw : P.whyFlip page next m l = 0) (hb : D.bad = false) : (P.flip D page next m l).1 = 0 := by
  by_cases h0 : (P.flip D page next m l).1 = 0
  · exact h0
  · rcases ((h.flip page next m l hgen).2 h0).2.2.2.2.2.2 with e | e
    · exact absurd hw e
    · rw [hb] at e; cases e

theorem crash_N {D : Dsk} (h : D.wf) (ks : List Int) : (D.crash ks).N = D.N := by
  show (crashed D.safe D.l ks).length / 256 = D.safe.length / 256
  rw [crashed_length _ _ _ h.fit]

/-- what the fixed calls leave -/
theorem known5_plain : ∃ (P1 P2 P3 P4 : Pgr) (D1 D2 D3 D4 : Dsk),
    (⟨0, 3, zeros4096, Rt.none, false⟩ : Pgr).write (Dsk.of (List.replicate (5 * 256) 0)) [97] = (0, 0, P1, D1) ∧ P1.write D1 [98] = (1, 0, P2, D2) ∧ P2.flip D2 0 1 [109] [0] = (0, P3, D3) ∧ P3.write D3 [99] = (1, 0, P4, D4) ∧
    (∃ was, PInv (⟨0, 3, zeros4096, Rt.none, false⟩ : Pgr) (Dsk.of (List.replicate (5 * 256) 0)) was) ∧ (∃ was, PInv P1 D1 was) ∧ (∃ was, PInv P2 D2 was) ∧ (∃ was, PInv P3 D3 was) ∧ (∃ was, PInv P4 D4 was) ∧
    D1.l.length ≤ 10 ∧ D2.l.length ≤ 10 ∧ D3.l.length ≤ 10 ∧ D4.l.length ≤ 10 ∧ P2.root.gen = 0 ∧ 5 ≤ (D4.crash []).N ∧
    (Pgr.opened 0 5 (D4.crash [])).root = ⟨1, 0, 1, [109]⟩ ∧ (Pgr.opened 0 5 (D4.crash [])).read (D4.crash []) 0 = (pad [97], 0) := by
  have i0 : PInv (⟨0, 3, zeros4096, Rt.none, false⟩ : Pgr) (Dsk.of (List.replicate (5 * 256) 0)) (fun _ => []) := PInv.start 5 (by decide) (by decide) (fun _ => [])
  have w1 := i0.writeFirst rfl [97] (by decide) 0 (by decide) (zeros4096_get 0) (fun k hk => by omega)
  have hb1 := pwrite_bad (⟨0, 3, zeros4096, Rt.none, false⟩ : Pgr) (Dsk.of (List.replicate (5 * 256) 0)) [97]
  obtain ⟨⟨y1, z1, P1, D1⟩, x1⟩ : ∃ o, (⟨0, 3, zeros4096, Rt.none, false⟩ : Pgr).write (Dsk.of (List.replicate (5 * 256) 0)) [97] = o := ⟨_, rfl⟩
  rw [x1] at w1 hb1
  obtain ⟨a1, a2, a3, a4, i1'⟩ := w1
  simp only at a1 a2 a3 a4 hb1 i1'
  subst a1 a2
  replace hb1 : D1.bad = false := hb1
  have e1 : P1 = ⟨0, 3, zeros4096.set 0 2, Rt.none, false⟩ := a3
  have l1 : D1.l.length ≤ 1 := a4
  have g1 : ∀ k, P1.is_.getD k 0 = if k = 0 then 2 else 0 := fun k => by
    rw [e1]; show (zeros4096.set 0 2).getD k 0 = _
    rw [getD_set _ _ _ _ (by rw [zeros4096_length]; decide), zeros4096_get]
  have w2 := i1'.writeFirst (congrArg Pgr.dead e1) [98] (by decide) 1 (by rw [congrArg Pgr.pages e1]; decide) (by rw [g1]; rfl) (fun k hk => by rw [g1, if_pos (by omega)]; decide)
  have hb2 := pwrite_bad P1 D1 [98]
  obtain ⟨⟨y2, z2, P2, D2⟩, x2⟩ : ∃ o, P1.write D1 [98] = o := ⟨_, rfl⟩
  rw [x2] at w2 hb2
  obtain ⟨b1, b2, b3, b4, i2'⟩ := w2
  simp only at b1 b2 b3 b4 hb2 i2'
  subst b1 b2
  rw [hb1] at hb2
  have e2 : P2 = ⟨0, 3, (zeros4096.set 0 2).set 1 2, Rt.none, false⟩ := by rw [b3, e1]
  have l2 : D2.l.length ≤ 2 := by omega
  have hw : P2.whyFlip 0 1 [109] [0] = 0 := by
    unfold Pgr.whyFlip
    have q1 : P2.badArgs 0 1 = false := by
      unfold Pgr.badArgs Pgr.there
      rw [e2]; rfl
    have q2 : [(0 : Int)].any P2.noFlip = false := by
      have : P2.is_.getD 0 0 = 2 := by
        rw [e2]; show ((zeros4096.set 0 2).set 1 2).getD 0 0 = 2
        rw [getD_set _ _ _ _ (by rw [List.length_set, zeros4096_length]; decide), if_neg (by decide), getD_set _ _ _ _ (by rw [zeros4096_length]; decide), if_pos rfl]
      have t : P2.there 0 = true := by unfold Pgr.there; rw [e2]; rfl
      show (P2.noFlip 0 || false) = false
      unfold Pgr.noFlip
      rw [t, show (0 : Int).toNat = 0 from rfl, this]
      rfl
    rw [if_neg (by rw [congrArg Pgr.dead e2]; decide), q1, q2]
    rfl
  have hg2 : P2.root.gen = 0 := by rw [e2]; rfl
  have c1 := i2'.flipOk (by rw [hg2]; decide) hw hb2
  have w3 := (i2'.flip 0 1 [109] [0] (by rw [hg2]; decide)).1 c1
  obtain ⟨⟨y3, P3, D3⟩, x3⟩ : ∃ o, P2.flip D2 0 1 [109] [0] = o := ⟨_, rfl⟩
  rw [x3] at w3 c1
  obtain ⟨-, -, c2, c3, c4, i3'⟩ := w3
  simp only at c1 c2 c3 c4 i3'
  subst c1
  have e3 : P3 = ⟨0, 3, setAll [0] zeros4096, ⟨1, 0, 1, [109]⟩, false⟩ := by
    rw [c2]
    unfold Pgr.toFlip
    rw [e2]; rfl
  have l3 : D3.l = [] := c3
  have g3 : ∀ k, k < 4096 → P3.is_.getD k 0 = if k = 0 then 1 else 0 := fun k hk => by
    rw [e3]; show (setAll [0] zeros4096).getD k 0 = _
    rw [setAll_get _ _ hk _ zeros4096_length (by decide), zeros4096_get]
    by_cases h : k = 0
    · subst h; rfl
    · rw [if_neg h, if_neg (by rw [List.mem_singleton]; omega)]
  have w4 := i3'.writeFirst (congrArg Pgr.dead e3) [99] (by decide) 1 (by rw [congrArg Pgr.pages e3]; decide) (by rw [g3 _ (by decide)]; rfl) (fun k hk => by rw [g3 _ (by omega), if_pos (by omega)]; decide)
  obtain ⟨⟨y4, z4, P4, D4⟩, x4⟩ : ∃ o, P3.write D3 [99] = o := ⟨_, rfl⟩
  rw [x4] at w4
  obtain ⟨d1, d2, d3, d4, i4'⟩ := w4
  simp only at d1 d2 d3 d4 i4'
  subst d1 d2
  have e4 : P4 = ⟨0, 3, (setAll [0] zeros4096).set 1 2, ⟨1, 0, 1, [109]⟩, false⟩ := by rw [d3, e3]
  have l4 : D4.l.length ≤ 1 := by rw [l3] at d4; exact d4
  obtain ⟨r1, r2⟩ := i4'.crash []
  have hn4 : 5 ≤ (D4.crash []).N := by
    rw [crash_N i4'.dw]
    have := i4'.pw.fit
    rw [congrArg Pgr.pages e4, congrArg Pgr.frm e4] at this
    exact this
  have r2' := r2 0 (by rw [congrArg Pgr.pages e4]; decide) (by
    rw [e4]; show ((setAll [0] zeros4096).set 1 2).getD 0 0 = 1
    rw [getD_set _ _ _ _ (by rw [setAll_length, zeros4096_length]; decide), if_neg (by decide), setAll_get _ _ (by decide) _ zeros4096_length (by decide), if_pos (by decide)])
  rw [e4] at r1 r2'
  refine ⟨P1, P2, P3, P4, D1, D2, D3, D4, x1, x2, x3, x4, ⟨_, i0⟩, ⟨_, i1'⟩, ⟨_, i2'⟩, ⟨_, i3'⟩, ⟨_, i4'⟩, by omega, by omega, by rw [l3]; decide, by omega, hg2, hn4, r1, ?_⟩
  exact r2'

section
variable {w0 w : World} {B : Nat} {Ts : List (Thg B)}
/-- numbers that were just laid -/
theorem Apart.laidInts (h : Apart w0 B Ts w) (l : List Int) (hl : l.length ≤ 1000) (C : Array Value) (hC : C = (l.map fun n => Value.int .i64 n).toArray) : Apart w0 B (Ts ++ [IntsT B (.slice (some ⟨w.heap.size, 0, none⟩) l.length l.length) l]) (w.alloc (.cells C 3)) := by
  refine h.more (IntsT B (.slice (some ⟨w.heap.size, 0, none⟩) l.length l.length) l) (Mod.alloc _ _ _) ⟨?_, rfl⟩ (fun k hk => by cases hk; exact Nat.le_refl _)
  have := World.ownsRow_lit (w := w) (base := B) (e := 3) (size := 1) C l.length h.le (by unfold maxLen; omega) (by rw [hC]; simp)
  rw [hC] at this ⊢
  exact this
theorem Apart.popen2 {p : Nat} {D : Dsk} (h : Apart w0 B Ts w) (d : Nat) (hd : Ts[d]? = some (DiskT B p D)) (frm size : Nat) (hf : frm ≤ D.N) (hs3 : 3 ≤ size) (hsz : size ≤ D.N - frm) :
    Calls Try.prog 65 #[.pointer (some ⟨p, 0, none⟩), .int .i64 (frm : Int), .int .i64 (size : Int)] w fun e w' => ∃ q a c, e = .returned (.tuple #[.pointer (some ⟨q, 0, none⟩), rootV (Pgr.opened frm size D).root (.slice a (Pgr.opened frm size D).root.mt.length c), .int .i64 0]) ∧
      Apart w0 B (Ts ++ [PT B q p (Pgr.opened frm size D), BytesT B (.slice a (Pgr.opened frm size D).root.mt.length c) (Pgr.opened frm size D).root.mt]) w' := by
  refine (h.popen d hd frm size hf hs3 hsz).mono ?_
  rintro e w' ⟨q, vr, he, L⟩
  obtain ⟨a, c, rfl, -⟩ := (L.bytes (Ts.length + 1) (v := vr) (l := (Pgr.opened frm size D).root.mt) (by simp)).shape
  exact ⟨q, a, c, he, L⟩
end

set_option maxRecDepth 100000 in
set_option maxHeartbeats 4000000 in
theorem known5_any (w : World) : Calls Try.prog 70 #[] w fun e w' => e = .returned (.bool true) ∧ Below w.heap.size w w' := by
  have L0 : Apart w w.heap.size [] w := Apart.nil (Below.refl _ _) (Nat.le_refl _)
  obtain ⟨P1, P2, P3, P4, D1, D2, D3, D4, f1, f2, f3, f4, ⟨_, i0⟩, ⟨_, i1⟩, ⟨_, i2⟩, ⟨_, i3⟩, ⟨_, i4⟩, g1, g2, g3, g4, k1, k2, k3, k4⟩ := known5_plain
  have kc := fun w C n c => Lib.run_convert_bytes_const (P := Try.prog) w 22 5 C n c Try.underlying22 Try.underlying5
  have hop := opened_zeros 5 (by decide)
  go_enter Try.func70, Try.ntmps70
  go_wp2_with fail
  refine (L0.newDisk 5 (by decide) (by decide)).mono ?_
  rintro e w1 ⟨p, rfl, L1⟩
  clear L0
  go_wp2_with fail
  have K2 := L1.popen2 0 rfl 0 5 (by decide) (by decide) (by simp [Dsk.of, Dsk.N])
  rw [hop] at K2
  refine K2.mono ?_
  rintro e w2 ⟨q, a2, c2, rfl, L2⟩
  clear K2 hop
  replace L2 : Apart w w.heap.size [DiskT w.heap.size p (Dsk.of (List.replicate (5 * 256) 0)), PT w.heap.size q p ⟨0, 3, zeros4096, Rt.none, false⟩] w2 := L2.take 2
  rw [show rootV Rt.none (.slice a2 Rt.none.mt.length c2) = .agg #[.int .i64 0, .int .i64 (-1), .int .i64 1, .slice a2 0 c2] from rfl]
  clear L1
  have I0 := Lib.hid i0
  have I1 := Lib.hid i1
  have I2 := Lib.hid i2
  have I3 := Lib.hid i3
  have K1 := Lib.hid k1
  have K3 := Lib.hid k3
  have K4 := Lib.hid k4
  have G1 := Lib.hid f1
  have G2 := Lib.hid f2
  have G3 := Lib.hid f3
  have G4 := Lib.hid f4
  clear i0 i1 i2 i3 i4 k1 k3 k4 f1 f2 f3 f4
  go_upto_region 7 with fail
  obtain ⟨W3, hW3⟩ : ∃ W3, W3 = w2.alloc (Obj.cells #[Value.int IntKind.i64 0, Value.int IntKind.i64 (-1), Value.int IntKind.i64 1, Value.slice a2 0 c2] 95) := ⟨_, rfl⟩
  rw [← hW3]
  have L3 := L2.alloc (Obj.cells #[Value.int IntKind.i64 0, Value.int IntKind.i64 (-1), Value.int IntKind.i64 1, Value.slice a2 0 c2] 95)
  rw [← hW3] at L3
  clear hW3 L2
  generalize w2.heap.size = kr at *
  have KW := (L3.alloc (.cells #[.int .u8 97] 5 (1, 2))).pwrite 1 0 rfl rfl (by decide) I0.out.pw (by show 0 + 1 ≤ _; decide) _ [97] 1 1 rfl (bytesAt_new' rfl rfl)
  rw [G1.out] at KW
  replace KW := Lib.hid KW
  go_wp2_with fail
  refine KW.out.mono ?_
  rintro e w4 ⟨rfl, L4⟩
  replace L4 : Apart w w.heap.size [DiskT w.heap.size p D1, PT w.heap.size q p P1] w4 := L4
  clear L3 KW
  have KW := (L4.alloc (.cells #[.int .u8 98] 5 (1, 2))).pwrite 1 0 rfl rfl (by decide) I1.out.pw (by omega) _ [98] 1 1 rfl (bytesAt_new' rfl rfl)
  rw [G2.out] at KW
  replace KW := Lib.hid KW
  go_wp2_with fail
  refine KW.out.mono ?_
  rintro e w5 ⟨rfl, L5⟩
  replace L5 : Apart w w.heap.size [DiskT w.heap.size p D2, PT w.heap.size q p P2] w5 := L5
  clear L4 KW
  have L6 := (L5.alloc (.cells #[.int .u8 109] 5 (1, 2))).laidInts [0] (by decide) #[.int .i64 0] rfl
  have hb6 : BytesAt ((w5.alloc (.cells #[.int .u8 109] 5 (1, 2))).alloc (.cells #[.int .i64 0] 3)) (some ⟨w5.heap.size, 0, none⟩) [109] := BytesAt.mod (bytesAt_new' rfl rfl) (Mod.alloc (fun _ => False) _ _) (fun _ _ _ => id)
  have KF := L6.pflipT 1 0 2 rfl rfl (by decide) I2.out.pw (by omega) (by rw [K1.out]; decide) 0 1 _ [109] 1 1 rfl (by decide) (fun e => by cases e) hb6 _ [0] 1 1 rfl (by decide) rfl (by decide) (by decide)
  rw [G3.out] at KF
  simp only [World.size_alloc] at KF
  replace KF := Lib.hid KF
  clear L6 hb6
  go_wp2_with fail
  refine KF.out.mono ?_
  rintro e w6 ⟨rfl, L6⟩
  replace L6 : Apart w w.heap.size [DiskT w.heap.size p D3, PT w.heap.size q p P3] w6 := L6.take 2
  clear L5 KF
  have KW := (L6.alloc (.cells #[.int .u8 99] 5 (1, 2))).pwrite 1 0 rfl rfl (by decide) I3.out.pw (by omega) _ [99] 1 1 rfl (bytesAt_new' rfl rfl)
  rw [G4.out] at KW
  replace KW := Lib.hid KW
  go_wp2_with fail
  refine KW.out.mono ?_
  rintro e w7 ⟨rfl, L7⟩
  replace L7 : Apart w w.heap.size [DiskT w.heap.size p D4, PT w.heap.size q p P4] w7 := L7
  clear L6 KW
  go_wp2_with fail
  refine (L7.crashNil 0 rfl).mono ?_
  rintro e w8 ⟨rfl, L8⟩
  replace L8 : Apart w w.heap.size [DiskT w.heap.size p (D4.crash []), PT w.heap.size q p P4] w8 := L8
  clear L7
  obtain ⟨P5, hP5⟩ : ∃ P5, P5 = Pgr.opened 0 5 (D4.crash []) := ⟨_, rfl⟩
  have KO := L8.popen2 0 rfl 0 5 (by omega) (by decide) (by omega)
  rw [K3.out, ← hP5] at KO
  have KX : P5.root = ⟨1, 0, 1, [109]⟩ := by rw [hP5]; exact K3.out
  have KR : P5.read (D4.crash []) 0 = (pad [97], 0) := by rw [hP5]; exact K4.out
  have hfr : P5.frm = 0 ∧ P5.pages = 3 := by rw [hP5]; exact ⟨rfl, rfl⟩
  replace KO := Lib.hid KO
  have KRh := Lib.hid KR
  have HFR := Lib.hid hfr
  clear hP5 KX KR hfr
  go_wp2_with fail
  refine KO.out.mono ?_
  rintro e w9 ⟨q2, a9, c9, rfl, L9⟩
  clear KO L8
  rw [show rootV ⟨1, 0, 1, [109]⟩ (.slice a9 ([109] : List UInt8).length c9) = .agg #[.int .i64 1, .int .i64 0, .int .i64 1, .slice a9 1 c9] from rfl]
  replace L9 : Apart w w.heap.size [DiskT w.heap.size p (D4.crash []), PT w.heap.size q p P4, PT w.heap.size q2 p P5, BytesT w.heap.size (.slice a9 1 c9) [109]] w9 := L9
  go_upto_region 15 with fail
  obtain ⟨W10, hW10⟩ : ∃ W10, W10 = w9.alloc (Obj.cells #[Value.int IntKind.i64 1, Value.int IntKind.i64 0, Value.int IntKind.i64 1, Value.slice a9 1 c9] 95) := ⟨_, rfl⟩
  rw [← hW10]
  have L10 := L9.alloc (Obj.cells #[Value.int IntKind.i64 1, Value.int IntKind.i64 0, Value.int IntKind.i64 1, Value.slice a9 1 c9] 95)
  have hb10 : W10.heap[w9.heap.size]? = some (.cells #[Value.int IntKind.i64 1, Value.int IntKind.i64 0, Value.int IntKind.i64 1, Value.slice a9 1 c9] 95 (0, 0)) := by rw [hW10]; exact heap_alloc_new _ _
  rw [← hW10] at L10
  clear hW10 L9
  generalize w9.heap.size = k9 at *
  have KR := L10.pread 2 0 rfl rfl (by rw [HFR.out.1, HFR.out.2]; exact k2) 0
  rw [KRh.out] at KR
  replace KR := Lib.hid KR
  go_wp2_with fail
  refine KR.out.mono ?_
  rintro e w11 ⟨v, rfl, ⟨av, cv, rfl, hbv, -, -, -⟩, m11⟩
  have L11 := L10.still m11
  have hb11 := m11.obj hb10 id
  have hc := fun j => cell_of_row w11 k9 j _ 95 (0, 0) hb11
  have d0 := hc 0
  have d1 := hc 1
  have d2 := hc 2
  have d3 := hc 3
  simp only [List.getElem?_toArray, List.getElem?_cons_zero, List.getElem?_cons_succ] at d0 d1 d2 d3
  have hpl : (pad [(97 : UInt8)]).length = 252 := pad_length _ (by decide)
  have hpl' : (pad [(97 : UInt8)]) = 97 :: List.replicate 251 0 := by unfold pad; rfl
  obtain ⟨gv, ov, rfl, hcv⟩ := hbv (by rw [hpl']; exact List.cons_ne_nil _ _)
  have x0 := hcv 0 (by rw [hpl]; decide)
  have e0 : (pad [(97 : UInt8)])[0]'(by rw [hpl]; decide) = 97 := by simp only [hpl', List.getElem_cons_zero]
  rw [e0, Nat.add_zero] at x0
  rw [hpl]
  have KA : Calls Try.prog 74 #[.agg #[.int .i64 1, .int .i64 0, .int .i64 1, .slice a9 1 c9]] w11 fun e w' => e = .returned (.agg #[.int .i64 1, .int .i64 0, .int .i64 1, .slice a9 1 c9]) ∧ Mod (fun _ => False) w11 w' := as_any ⟨1, 0, 1, [109]⟩ a9 1 c9
  have HKA := Lib.hid KA
  have HB9 := Lib.hid (show BytesAt w11 a9 [109] by
    have := L11.bytes 3 (v := .slice a9 1 c9) (l := [109]) rfl
    obtain ⟨a', c', e, -, -, h⟩ := this.shape
    cases e
    exact h)
  have X0 := Lib.hid x0
  have HL11 := Lib.hid L11
  clear KR hb10 hb11 hc m11 hpl hpl' e0 hcv L10 KA x0 L11
  unfold byteV at X0
  go_wp2_with fail
  refine HKA.out.mono ?_
  rintro e w12 ⟨rfl, m12⟩
  have L13 := (HL11.out.still m12).alloc (.cells #[.int .u8 109] 5 (1, 2))
  have m13 : Mod (fun _ => False) w11 (w12.alloc (.cells #[.int .u8 109] 5 (1, 2))) := m12.trans' (Mod.alloc _ _ _)
  have KS : Calls Try.prog 73 #[.agg #[.int .i64 1, .int .i64 0, .int .i64 1, .slice a9 1 c9], .agg #[.int .i64 1, .int .i64 0, .int .i64 1, .slice (some ⟨w12.heap.size, 0, none⟩) 1 1]] (w12.alloc (.cells #[.int .u8 109] 5 (1, 2))) fun e w' => e = .returned (.bool true) ∧ Mod (fun _ => False) (w12.alloc (.cells #[.int .u8 109] 5 (1, 2))) w' := by
    have := same_any (w := w12.alloc (.cells #[.int .u8 109] 5 (1, 2))) ⟨1, 0, 1, [109]⟩ ⟨1, 0, 1, [109]⟩ a9 1 c9 (some ⟨w12.heap.size, 0, none⟩) 1 1 rfl rfl (HB9.out.mod m13 (fun _ _ _ => id)) (bytesAt_new' rfl rfl)
    rw [Rt.same_self] at this
    exact this
  have HKS := Lib.hid KS
  have M13 := Lib.hid m13
  have HL13 := Lib.hid L13
  clear m12 m13 KS HKA L13
  go_wp2_with fail
  refine HKS.out.mono ?_
  rintro e w14 ⟨rfl, m14⟩
  have x0 := (M13.out.trans' m14).cell' X0.out id
  have hbel := (HL13.out.still m14).bel
  clear m14
  go_wp2
  go_ret
  exact ⟨rfl, hbel⟩

theorem Apart.known5 {w0 w : World} {B : Nat} {Ts : List (Thg B)} (h : Apart w0 B Ts w) : Calls Try.prog 70 #[] w fun e w' => e = .returned (.bool true) ∧ Apart w0 B Ts w' :=
  (known5_any w).mono fun _ _ ⟨he, hb⟩ => ⟨he, h.next hb⟩

end Go.Proofs.Ytdinnkacilgmmaa
