/- The disk's small calls, walked. -/
import Derived.Test.YtdinnkacilgmmaaDisk0
import Derived.Deep.RegionHeld3
import Derived.Lib.SliceRun
namespace Go.Proofs.Ytdinnkacilgmmaa
open Go.RowKit

theorem OwnB.weaken {w : World} {B B' : Nat} {v : Value} {l : List UInt8} (h : OwnB w B' v l) (hB : B ≤ B') : OwnB w B v l := by
  refine ⟨h.1, ?_⟩
  rcases h.2 with hn | ⟨g, cap, cur, rfl, hb, rest⟩
  · exact .inl hn
  · exact .inr ⟨g, cap, cur, rfl, Nat.le_trans hB hb, rest⟩

set_option maxRecDepth 100000 in
/-- slices.Clone of bytes -/
theorem clone_any (a : Option Addr) (l : List UInt8) (cap : Nat) (w : World) (B : Nat) (hB : B ≤ w.heap.size) (hm : l.length ≤ 140737488355328) (ha : a = none → l = [] ∧ cap = 0) (hb : BytesAt w a l) :
    Calls Try.prog 86 #[.slice a l.length cap] w fun e w' => ∃ v, e = .returned v ∧ OwnB w' B v l ∧ Mod (fun _ => False) w w' ∧ (∀ k, v.ownBlock = some k → w.heap.size ≤ k) := by
  have kn : ∀ (w : World) (a : Option Addr) (n c : Nat), (binOp .eql 22 (.slice a n c) (.slice none 0 0)).run Try.prog w = .ok (.bool a.isNone) w := fun w a n c => Lib.run_eql_slice_nil w 22 5 a n c 0 0 Try.underlying22
  cases a with
  | none =>
    obtain ⟨rfl, rfl⟩ := ha rfl
    go_enter Try.func86, Try.ntmps86
    go_wp2
    go_ret
    exact ⟨_, rfl, OwnB.nil _ _, Mod.refl _ _, by simp [Value.ownBlock]⟩
  | some x =>
    go_enter Try.func86, Try.ntmps86
    go_wp2_with (first
      | (at_builtin; refine appB rfl _ _ rfl w.heap.size (.slice (some ⟨w.heap.size, 0, none⟩) 0 0) [] rfl (OwnB.made w _ [] #[] (by simp) (Nat.le_refl _) (by decide)) _ _ _ l rfl rfl (fun e => by cases e) (hb.fresh ((Below.refl _ _).alloc (Nat.le_refl _) _)) (by simp; omega) (by simp) ?_; intro v1 w1 hown1 hmod1 _; rw [List.nil_append] at hown1))
    go_ret
    refine ⟨_, rfl, hown1.weaken hB, (Mod.alloc (fun _ => False) w _).trans hmod1 ?_, fun k hk => (World.ownsRow.lt hown1 k hk).1⟩
    intro i hi h
    simp [Value.ownBlock] at h
    omega

theorem clone_n (a : Option Addr) (l : List UInt8) (n cap : Nat) (w : World) (B : Nat) (hn : l.length = n) (hB : B ≤ w.heap.size) (hm : l.length ≤ 140737488355328) (ha : a = none → l = [] ∧ cap = 0) (hb : BytesAt w a l) :
    Calls Try.prog 86 #[.slice a n cap] w fun e w' => ∃ v, e = .returned v ∧ OwnB w' B v l ∧ Mod (fun _ => False) w w' ∧ (∀ k, v.ownBlock = some k → w.heap.size ≤ k) := by
  subst hn; exact clone_any a l cap w B hB hm ha hb

section
variable {w : World} {B p : Nat} {vs vn vl : Value} {D : Dsk}

theorem _root_.Go.Proofs.Ytdinnkacilgmmaa.Dsk.wf.bound {D : Dsk} (h : D.wf) : D.safe.length ≤ 1048576 := by
  have h1 := h.len
  have h2 := h.top
  omega
theorem _root_.Go.Proofs.Ytdinnkacilgmmaa.Dsk.wf.pos' {D : Dsk} (h : D.wf) : 1 ≤ D.safe.length := by
  have h1 := h.len
  have h2 := h.pos
  omega

theorem Dsk.len_div (D : Dsk) (_h : D.wf) : ((D.safe.length : Int) / 256) = (D.N : Int) := by
  unfold Dsk.N; omega

theorem setCell_block {w : World} {q i : Nat} {C : Array Value} {t : TypeId} (hq : w.heap[q]? = some (.cells C t (0, 0))) (v : Value) : (w.setCell ⟨q, i, none⟩ v).heap[q]? = some (.cells (C.setIfInBounds i v) t (0, 0)) := by
  rw [setCell_eq_setRow w q i C t (0, 0) v hq]
  exact setRow_heap w q C _ t _ hq

theorem thaw_of {w : World} {q i : Nat} {C : Array Value} {t : TypeId} (hq : w.heap[q]? = some (.cells C t (0, 0))) : w.frozen? ⟨q, i, none⟩ = false := by simp [World.frozen?, hq]

theorem foot_p {p : Nat} {vs vn vl : Value} : foot p vs vn vl p := .inl rfl

/-- one cell of the disk's own block is written -/
theorem DiskV.flag (h : DiskV w B p vs vn vl D) (i : Nat) (v : Value) (D' : Dsk) (hs : D'.safe = D.safe) (hl : D'.l = D.l)
    (hc : #[vs, vn, vl, .bool D.bad, .bool D.full, .bool D.gone].setIfInBounds i v = #[vs, vn, vl, .bool D'.bad, .bool D'.full, .bool D'.gone]) :
    Turned w B p (foot p vs vn vl) D' (w.setCell ⟨p, i, none⟩ v) := by
  have hm : Mod (fun k => k = p) w (w.setCell ⟨p, i, none⟩ v) := Mod.setCell w _ v rfl
  refine ⟨Mod.setCell w _ v foot_p, _, ⟨vs, vn, vl, ⟨?_, ?_, h.hp, ?_, ?_, ?_, h.apart⟩, rfl⟩, fun k hk => .inl hk⟩
  · obtain ⟨s, l, b, f, g⟩ := D'
    subst hs hl
    exact ⟨h.wf.len, h.wf.pos, h.wf.top, h.wf.l⟩
  · rw [setCell_block h.at_, hc]
  · rw [hs]
    exact h.safe.mod hm (fun k hk e => h.ne_sl.1 (by rw [hk, e]))
  · have : D'.now = D.now := by unfold Dsk.now; rw [hs, hl]
    rw [this]
    exact h.now.mod hm (fun k hk e => h.ne_sl.2.1 (by rw [hk, e]))
  · rw [hl]
    exact h.l.mod hm (fun k hk e => h.ne_sl.2.2.1 (by rw [hk, e]))

theorem size_any (h : DiskV w B p vs vn vl D) : Calls Try.prog 52 #[.pointer (some ⟨p, 0, none⟩)] w fun e w' => e = .returned (.int .i64 (D.N : Int)) ∧ w = w' := by
  have c0 := h.cell.1
  obtain ⟨a, cap, rfl, h1, h2, -⟩ := h.safe.shape
  have hN := Lib.hid (D.len_div h.wf)
  have hb := h.wf.bound
  go_enter Try.func52, Try.ntmps52
  go_wp2
  go_ret
  exact ⟨ret_val (by show Value.int _ _ = _; rw [hN.out]), rfl⟩

theorem wrong_any (h : DiskV w B p vs vn vl D) (n : Int) : Calls Try.prog 87 #[.pointer (some ⟨p, 0, none⟩), .int .i64 n] w fun e w' => e = .returned (.int .i64 (D.wrong n)) ∧ w = w' := by
  have hN := D.N
  by_cases h1 : n < 0
  · have e : D.wrong n = 1 := by simp [Dsk.wrong, h1]
    rw [e]
    go_enter Try.func87, Try.ntmps87
    go_wp2
    go_ret
    exact ⟨rfl, rfl⟩
  · by_cases h2 : (D.N : Int) ≤ n
    · have e : D.wrong n = 1 := by simp [Dsk.wrong, h2]
      rw [e]
      go_enter Try.func87, Try.ntmps87
      go_wp2_with (go_at_call 52; refine (size_any h).mono ?_; rintro e w' ⟨rfl, rfl⟩)
      go_ret
      exact ⟨rfl, rfl⟩
    · have e : D.wrong n = 0 := by unfold Dsk.wrong; rw [if_neg (by omega)]
      rw [e]
      go_enter Try.func87, Try.ntmps87
      go_wp2_with (go_at_call 52; refine (size_any h).mono ?_; rintro e w' ⟨rfl, rfl⟩)
      go_ret
      exact ⟨rfl, rfl⟩

theorem image_any (h : DiskV w B p vs vn vl D) (C : Nat) (hC : C ≤ w.heap.size) : Calls Try.prog 34 #[.pointer (some ⟨p, 0, none⟩)] w fun e w' => ∃ v, e = .returned v ∧ OwnB w' C v D.safe ∧ Mod (fun _ => False) w w' ∧ (∀ k, v.ownBlock = some k → w.heap.size ≤ k) := by
  have c0 := h.cell.1
  obtain ⟨a, cap, rfl, h1, h2, hbs⟩ := h.safe.shape
  have hb := h.wf.bound
  have hp := h.wf.pos'
  have ha : a = none → D.safe = [] ∧ cap = 0 := by
    rintro rfl
    have := hbs
    by_cases e : D.safe = []
    · rw [e] at hp; simp at hp
    · obtain ⟨_, _, e2, _⟩ := hbs e; cases e2
  go_enter Try.func34, Try.ntmps34
  go_wp2_with fail
  refine (clone_any a D.safe cap w C hC (by omega) ha hbs).mono ?_
  rintro e w' ⟨v, rfl, h3, h4, h5⟩
  go_wp2
  go_ret
  exact ⟨_, rfl, h3, h4, h5⟩

theorem unsynced_any (h : DiskV w B p vs vn vl D) : Calls Try.prog 39 #[.pointer (some ⟨p, 0, none⟩)] w fun e w' => e = .returned (.int .i64 (D.l.length : Int)) ∧ w = w' := by
  obtain ⟨-, -, c2, -⟩ := h.cell
  obtain ⟨a, cap, rfl, h1, h2⟩ := h.l.shape
  go_enter Try.func39, Try.ntmps39
  go_wp2
  go_ret
  exact ⟨rfl, rfl⟩

theorem dead_any (h : DiskV w B p vs vn vl D) : Calls Try.prog 38 #[.pointer (some ⟨p, 0, none⟩)] w fun e w' => e = .returned (.bool D.gone) ∧ w = w' := by
  obtain ⟨-, -, -, -, -, c5⟩ := h.cell
  go_enter Try.func38, Try.ntmps38
  go_wp2
  have hr : Try.f38.results = #[.tmp 2] := rfl
  refine bodyPost_ret (results_tmp hr _ _ _) rfl ?_
  exact ⟨rfl, rfl⟩

theorem fail_any (h : DiskV w B p vs vn vl D) : Calls Try.prog 42 #[.pointer (some ⟨p, 0, none⟩)] w fun e w' => e = .returned (.int .i64 0) ∧ Turned w B p (foot p vs vn vl) { D with bad := true } w' := by
  obtain ⟨-, -, -, c3, -⟩ := h.cell
  have f3 := thaw_of (i := 3) h.at_
  go_enter Try.func42, Try.ntmps42
  go_wp2
  go_ret
  exact ⟨rfl, h.flag 3 _ _ rfl rfl rfl⟩

theorem full_any (h : DiskV w B p vs vn vl D) (b : Bool) : Calls Try.prog 41 #[.pointer (some ⟨p, 0, none⟩), .bool b] w fun e w' => e = .returned (.int .i64 0) ∧ Turned w B p (foot p vs vn vl) { D with full := b } w' := by
  obtain ⟨-, -, -, -, c4, -⟩ := h.cell
  have f4 := thaw_of (i := 4) h.at_
  go_enter Try.func41, Try.ntmps41
  go_wp2
  go_ret
  exact ⟨rfl, h.flag 4 _ _ rfl rfl rfl⟩

/-- at: a sector of bytes -/
theorem at_any (a : Option Addr) (n N cap k : Nat) (w : World) (hN : N * 256 ≤ n) (hc : n ≤ cap) (hk : k < N) (hn : n ≤ 1048576) (g off : Nat) (ha : a = some ⟨g, off, none⟩) :
    Calls Try.prog 85 #[.slice a n cap, .int .i64 (k : Int)] w fun e w' => e = .returned (.slice (some ⟨g, off + k * 256, none⟩) 256 256) ∧ w = w' := by
  subst ha
  have h1 : (k : Int) * 256 + 256 ≤ (n : Int) := by omega
  go_enter Try.func85, Try.ntmps85
  go_wp2
  go_ret
  exact ⟨ret_val (by show Value.slice _ _ _ = _; rw [show (k + 1) * 256 - k * 256 = 256 by omega]), rfl⟩

/-- a sector of bytes -/
def sector (s : List UInt8) (k : Nat) : List UInt8 := (s.drop (k * 256)).take 256
theorem sector_length (s : List UInt8) (k N : Nat) (h : N * 256 ≤ s.length) (hk : k < N) : (sector s k).length = 256 := by
  simp [sector]; omega

theorem BytesAt.sub {w : World} {g off : Nat} {l : List UInt8} (h : BytesAt w (some ⟨g, off, none⟩) l) (k m : Nat) : BytesAt w (some ⟨g, off + k, none⟩) ((l.drop k).take m) := by
  intro hne
  have hl : l ≠ [] := by rintro rfl; simp at hne
  obtain ⟨b, o, e, hc⟩ := h hl
  cases e
  refine ⟨_, _, rfl, fun j hj => ?_⟩
  have hj' : k + j < l.length := by simp at hj; omega
  have := hc (k + j) hj'
  rw [Nat.add_assoc, this]
  simp

theorem read_any (h : DiskV w B p vs vn vl D) (n : Int) (C : Nat) (hC : C ≤ w.heap.size) : Calls Try.prog 37 #[.pointer (some ⟨p, 0, none⟩), .int .i64 n] w fun e w' =>
    ∃ v, e = .returned (.tuple #[v, .int .i64 (D.wrong n)]) ∧ OwnB w' C v (if D.wrong n = 0 then sector D.now n.toNat else []) ∧ Mod (fun _ => False) w w' ∧ (∀ k, v.ownBlock = some k → w.heap.size ≤ k) := by
  obtain ⟨-, c1, -⟩ := h.cell
  by_cases hw : D.wrong n = 0
  · obtain ⟨k, rfl⟩ : ∃ k : Nat, n = (k : Int) := ⟨n.toNat, by unfold Dsk.wrong at hw; split at hw <;> omega⟩
    have hk : k < D.N := by unfold Dsk.wrong at hw; split at hw <;> omega
    have hn := h.wf.now
    have hp := h.wf.pos'
    obtain ⟨g, cap, cur, rfl, -, -, h1, h2, -⟩ := h.now.row (by intro e; rw [e] at hn; simp at hn; omega)
    obtain ⟨a, cap', e, -, -, hbs⟩ := h.now.shape
    cases e
    have hb := h.wf.bound
    have hsub := hbs.sub (k * 256) 256
    rw [Nat.zero_add] at hsub
    have hN : D.N * 256 ≤ D.now.length := by rw [hn]; exact Nat.le_of_eq h.wf.len.symm
    have hb' : D.now.length ≤ 1048576 := by rw [hn]; exact hb
    have hsl := sector_length D.now k D.N hN hk
    have hwr := wrong_any h (k : Int)
    rw [hw] at hwr ⊢
    rw [if_pos rfl, Int.toNat_natCast]
    clear hn
    go_enter Try.func37, Try.ntmps37
    go_wp2_with fail
    refine hwr.mono ?_
    rintro e w' ⟨rfl, rfl⟩
    go_wp2_with fail
    refine (at_any (some ⟨g, 0, none⟩) D.now.length D.N cap k w hN h1 hk hb' g 0 rfl).mono ?_
    rintro e w' ⟨rfl, rfl⟩
    go_wp2_with fail
    refine (clone_n _ (sector D.now k) 256 _ _ C hsl hC (by omega) (fun e => by cases e) hsub).mono ?_
    rintro e w' ⟨v, rfl, h3, h4, h5⟩
    go_wp2
    refine bodyPost_ret (results_tmp2 rfl _ _ _) rfl ?_
    exact ⟨_, rfl, h3, h4, h5⟩
  · have hwr := wrong_any h n
    have hw1 : D.wrong n = 1 := by unfold Dsk.wrong at hw ⊢; split <;> simp_all
    rw [hw1] at hwr ⊢
    rw [if_neg (by decide)]
    go_enter Try.func37, Try.ntmps37
    go_wp2_with fail
    refine hwr.mono ?_
    rintro e w' ⟨rfl, rfl⟩
    go_wp2
    refine bodyPost_ret (results_tmp2 rfl _ _ _) rfl ?_
    exact ⟨_, rfl, OwnB.nil _ _, Mod.refl _ _, by simp [Value.ownBlock]⟩
end
end Go.Proofs.Ytdinnkacilgmmaa
