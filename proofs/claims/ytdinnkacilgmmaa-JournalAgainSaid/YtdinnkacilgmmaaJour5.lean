/- The journal's small calls. -/
import Derived.Test.YtdinnkacilgmmaaJour4
namespace Go.Proofs.Ytdinnkacilgmmaa
open Go.RowKit

section
variable {w : World} {B q p : Nat} {J : Jr}

theorem jstart_any (h : JAt w q p J) : Calls Try.prog 61 #[.pointer (some ⟨q, 0, none⟩)] w fun e w' => e = .returned (.int .i64 (J.start : Int)) ∧ w = w' := by
  obtain ⟨-, -, -, c3, -, -⟩ := h.cell
  go_enter Try.func61, Try.ntmps61
  go_wp2
  go_ret
  exact ⟨rfl, rfl⟩
theorem jnext_any (h : JAt w q p J) : Calls Try.prog 57 #[.pointer (some ⟨q, 0, none⟩)] w fun e w' => e = .returned (.int .i64 (J.next : Int)) ∧ w = w' := by
  obtain ⟨-, -, -, -, c4, -⟩ := h.cell
  go_enter Try.func57, Try.ntmps57
  go_wp2
  go_ret
  exact ⟨rfl, rfl⟩
theorem jdead_any (h : JAt w q p J) : Calls Try.prog 62 #[.pointer (some ⟨q, 0, none⟩)] w fun e w' => e = .returned (.bool J.dead) ∧ w = w' := by
  obtain ⟨-, -, -, -, -, c5⟩ := h.cell
  go_enter Try.func62, Try.ntmps62
  go_wp2
  go_ret
  exact ⟨rfl, rfl⟩

theorem sectors_any (n : Nat) (hn : n ≤ 1000000) : Calls Try.prog 97 #[.int .i64 (n : Int)] w fun e w' => e = .returned (.int .i64 (((n + 245) / 242 : Nat) : Int)) ∧ w = w' := by
  have e : ((n : Int) + 4 + 242 - 1) / 242 = (((n + 245) / 242 : Nat) : Int) := by omega
  have e2 : ((n : Int) + 245) / 242 = (((n + 245) / 242 : Nat) : Int) := by omega
  have H := Lib.hid e
  have H2 := Lib.hid e2
  clear e e2
  go_enter Try.func97, Try.ntmps97
  go_wp2
  go_ret
  exact ⟨ret_val (by show Value.int _ _ = _; first | rw [H.out] | rw [H2.out]), rfl⟩

/-- Trim -/
def Jr.whyTrim (J : Jr) (s : Int) : Int := if s < (J.start : Int) ∨ (J.next : Int) < s then 1 else 0
def Jr.trim (J : Jr) (s : Int) : Jr := if s < (J.start : Int) ∨ (J.next : Int) < s then J else { J with start := s.toNat }
theorem jtrim_any (h : JAt w q p J) (s : Int) : Calls Try.prog 60 #[.pointer (some ⟨q, 0, none⟩), .int .i64 s] w fun e w' => e = .returned (.int .i64 (J.whyTrim s)) ∧ JAt w' q p (J.trim s) ∧ Mod (fun k => k = q) w w' := by
  obtain ⟨-, -, -, c3, c4, -⟩ := h.cell
  have t3 := thaw_of (i := 3) h
  by_cases h1 : s < (J.start : Int)
  · have e1 : J.whyTrim s = 1 := by simp [Jr.whyTrim, h1]
    have e2 : J.trim s = J := by simp [Jr.trim, h1]
    rw [e1, e2]
    go_enter Try.func60, Try.ntmps60
    go_wp2
    go_ret
    exact ⟨rfl, h, Mod.refl _ _⟩
  · by_cases h2 : (J.next : Int) < s
    · have e1 : J.whyTrim s = 1 := by simp [Jr.whyTrim, h2]
      have e2 : J.trim s = J := by simp [Jr.trim, h2]
      rw [e1, e2]
      go_enter Try.func60, Try.ntmps60
      go_wp2
      go_ret
      exact ⟨rfl, h, Mod.refl _ _⟩
    · have e1 : J.whyTrim s = 0 := by simp [Jr.whyTrim, h1, h2]
      have e2 : J.trim s = { J with start := s.toNat } := by simp [Jr.trim, h1, h2]
      have hs : ((s.toNat : Nat) : Int) = s := by omega
      have hb := setCell_block (i := 3) h (.int .i64 s)
      have hJ : JAt (w.setCell ⟨q, 3, none⟩ (.int .i64 s)) q p { J with start := s.toNat } := by
        unfold JAt
        rw [hb]
        simp only [hs]
        rfl
      rw [e1, e2]
      have HJ := Lib.hid hJ
      clear hJ hb hs e1 e2
      go_enter Try.func60, Try.ntmps60
      go_wp2
      go_ret
      exact ⟨rfl, HJ.out, Mod.setCell _ _ _ rfl⟩

/-- Room -/
def Jr.room (J : Jr) : Int := if J.dead then 0 else max (min (((J.start : Int) + J.size - J.next) * 242 - 4) 8192) 0
theorem jroom_any (h : JAt w q p J) (hb : J.start + J.size ≤ 2305843009213693952) (hn : J.next ≤ J.start + J.size) (hz : J.size ≤ 4096) (hs : J.start ≤ J.next) : Calls Try.prog 59 #[.pointer (some ⟨q, 0, none⟩)] w fun e w' => e = .returned (.int .i64 J.room) ∧ Mod (fun _ => False) w w' := by
  obtain ⟨-, -, c2, c3, c4, c5⟩ := h.cell
  cases hd : J.dead
  · rw [hd] at c5
    obtain ⟨f, hf⟩ : ∃ f : Nat, (f : Int) = (J.start : Int) + J.size - J.next := ⟨J.start + J.size - J.next, by omega⟩
    have hr : J.room = max (min ((f : Int) * 242 - 4) 8192) 0 := by unfold Jr.room; rw [hd, if_neg (by decide), hf]
    have hf4 : f ≤ 4096 := by omega
    have HR := Lib.hid hr
    have w1 : IntKind.i64.wrap ((J.start : Int) + (J.size : Int)) = (J.start : Int) + (J.size : Int) := IntWalk.i64_in _ (by omega)
    have w2 : IntKind.i64.wrap ((J.start : Int) + (J.size : Int) - (J.next : Int)) = (f : Int) := by rw [← hf]; exact IntWalk.i64_in _ (by omega)
    clear hr hf hd
    have kmx : ∀ (w : World) (ts : Array TypeId) (t : TypeId) (x : Int), (Builtin.max_ ts t #[.int .i64 x, .int .i64 0]).run Try.prog w = .ok (.int .i64 (max x 0)) w := fun w ts t x => by rw [run_max_int2]; congr 2; split <;> omega
    have kmn : ∀ (w : World) (ts : Array TypeId) (t : TypeId) (x : Int), (Builtin.min_ ts t #[.int .i64 x, .int .i64 8192]).run Try.prog w = .ok (.int .i64 (min x 8192)) w := fun w ts t x => by rw [run_min_int2]; congr 2; split <;> omega
    go_enter Try.func59, Try.ntmps59
    go_wp2_with fail
    go_region_held3 (fun w' => w'.cell? ⟨q, 2, none⟩ = some (.int .i64 (J.size : Int)) ∧ w'.cell? ⟨q, 3, none⟩ = some (.int .i64 (J.start : Int)) ∧ w'.cell? ⟨q, 4, none⟩ = some (.int .i64 (J.next : Int))) (refine ⟨?_, ?_, ?_⟩ <;> simpa using (by assumption)) (fail)
    clear w1 w2
    go_wp2
    go_ret
    exact ⟨ret_val (by show Value.int _ _ = _; rw [HR.out]), Mod.drew _ _⟩
  · have hr : J.room = 0 := by unfold Jr.room; rw [hd]; rfl
    rw [hr]
    rw [hd] at c5
    go_enter Try.func59, Try.ntmps59
    go_wp2
    go_ret
    exact ⟨rfl, Mod.refl _ _⟩

/-- Sync -/
theorem jsync_dead (h : JAt w q p J) (hdd : J.dead = true) : Calls Try.prog 55 #[.pointer (some ⟨q, 0, none⟩)] w fun e w' => e = .returned (.int .i64 21) ∧ w = w' := by
  obtain ⟨c0, -, -, -, -, c5⟩ := h.cell
  rw [hdd] at c5
  clear hdd
  go_enter Try.func55, Try.ntmps55
  go_wp2
  go_ret
  exact ⟨rfl, rfl⟩
theorem jsync_any {D : Dsk} {F : Nat → Prop} (h : JAt w q p J) (hd : DiskAt w B p D F) (hq : ¬ F q) (hdd : J.dead = false) : Calls Try.prog 55 #[.pointer (some ⟨q, 0, none⟩)] w fun e w' =>
    e = .returned (.int .i64 D.whySync) ∧ JAt w' q p { J with dead := D.whySync != 0 } ∧ Mod (fun k => F k ∨ k = q) w w' ∧ ∃ F', DiskAt w' B p D.sync F' ∧ (∀ k, F' k → F k ∨ w.heap.size ≤ k) := by
  obtain ⟨c0, -, -, -, -, c5⟩ := h.cell
  rw [hdd] at c5
  clear hdd
  obtain ⟨c, hc⟩ : ∃ c, c = D.whySync := ⟨_, rfl⟩
  have hqs : q < w.heap.size := lt_of_block h
  rw [← hc]
  have HC := Lib.hid hc
  clear hc
  go_enter Try.func55, Try.ntmps55
  go_wp2_with fail
  refine hd.sync.mono ?_
  rintro e w2 ⟨rfl, hm, F', hd2, hF'⟩
  rw [← HC.out]
  have h2 := h.mod hm hq
  obtain ⟨-, -, -, -, -, d5⟩ := h2.cell
  have t5 := thaw_of (i := 5) h2
  have hb := setCell_block (i := 5) h2 (.bool (c != 0))
  have m3 : Mod (fun k => k = q) w2 (w2.setCell ⟨q, 5, none⟩ (.bool (c != 0))) := Mod.setCell _ _ _ rfl
  have hqF : ∀ k, F' k → k ≠ q := fun k hk e => by
    subst e
    rcases hF' k hk with e | e
    · exact hq e
    · omega
  have HD := Lib.hid (hd2.mod m3 hqF)
  have HJ : Hid (JAt (w2.setCell ⟨q, 5, none⟩ (.bool (c != 0))) q p { J with dead := c != 0 }) := Lib.hid (by unfold JAt; rw [hb]; rfl)
  have HM := Lib.hid ((hm.mono (fun k _ e => Or.inl e : ∀ k, k < w.heap.size → F k → F k ∨ k = q)).trans m3 (fun k _ e => Or.inr e))
  have HF := Lib.hid hF'
  clear hb m3 hqF hd2 hF' h2
  go_wp2
  go_ret
  exact ⟨rfl, HJ.out, HM.out, F', HD.out, HF.out⟩
end
end Go.Proofs.Ytdinnkacilgmmaa
